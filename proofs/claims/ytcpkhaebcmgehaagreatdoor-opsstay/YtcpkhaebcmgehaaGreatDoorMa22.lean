/- Joined by mkmerged.py: FsPaths, FsCode. -/
import Derived.Test.YtcpkhaebcmgehaaGreatDoorMa21
import Derived.Test.YtcpkhaebcmgehaaGreatDoorMa16
import Derived.Test.YtcpkhaebcmgehaaGreatDoorMa02
/- The contracts of paths.below, Under, find, Get. -/
namespace Go.Proofs.YtcpkhaebcmgehaaGreatDoor.Fs
open Go.RowKit
set_option linter.unusedVariables false
set_option maxRecDepth 100000
/-- what CutPrefix leaves -/
def rest (s p : B) : B := Lib.trimPrefix s (p ++ [47])
theorem rest_le (s p : B) : (rest s p).length ≤ s.length := Lib.trimPrefix_le _ _
theorem below_cases (s p : B) : (Lib.hasPrefix s (p ++ [47]) = false ∧ belowB s p = none) ∨ (Lib.hasPrefix s (p ++ [47]) = true ∧ rest s p = [] ∧ belowB s p = none) ∨ (Lib.hasPrefix s (p ++ [47]) = true ∧ rest s p ≠ [] ∧ belowB s p = some (rest s p)) := by
  cases h : Lib.hasPrefix s (p ++ [47]) with
  | false =>
    refine .inl ⟨rfl, ?_⟩
    unfold belowB
    rw [if_neg]
    intro hh
    have : Lib.hasPrefix s (p ++ [47]) = true := List.isPrefixOf_iff_prefix.2 hh.1
    rw [h] at this; cases this
  | true =>
    have hp : (p ++ [47]) <+: s := List.isPrefixOf_iff_prefix.1 h
    have hr : rest s p = s.drop (p.length + 1) := by
      unfold rest Lib.trimPrefix
      rw [if_pos h]; simp
    have hl := hp.length_le
    simp only [List.length_append, List.length_singleton] at hl
    by_cases h1 : p.length + 1 < s.length
    · refine .inr (.inr ⟨rfl, ?_, ?_⟩)
      · rw [hr]
        intro e
        have := congrArg List.length e
        simp at this
        omega
      · unfold belowB
        rw [if_pos ⟨hp, h1⟩, hr]
    · refine .inr (.inl ⟨rfl, ?_, ?_⟩)
      · rw [hr]
        exact List.drop_eq_nil_of_le (by omega)
      · unfold belowB
        rw [if_neg (fun hh => h1 hh.2)]
theorem below_raw (s p : ByteArray) (hp : p.size ≤ 1000000000) (w : World) (r : B) (h : Bool) (CP : Hid (Calls Tryz.prog 172 #[.string s, .string (p ++ ⟨#[47]⟩)] w fun e w' => e = .returned (.tuple #[.string (bs r), .bool h]) ∧ w = w')) :
    Calls Tryz.prog 138 #[.string s, .string p] w fun e w' => e = .returned (.tuple #[.string (bs r), .bool (h && !r.isEmpty)]) ∧ w = w' := by
  cases h
  · go_enter Tryz.func138, Tryz.ntmps138
    go_wp2_with (go_at_call 172; ((with_reducible refine (CP.out).mono ?_); rintro e w1 ⟨rfl, rfl⟩))
    go_ret2
    exact ⟨rfl, rfl⟩
  · by_cases hr : r = []
    · subst hr
      go_enter Tryz.func138, Tryz.ntmps138
      go_wp2_with (go_at_call 172; ((with_reducible refine (CP.out).mono ?_); rintro e w1 ⟨rfl, rfl⟩; rw [bs_nil]))
      go_ret2
      exact ⟨rfl, rfl⟩
    · have g := bs_ne hr
      have HE : Hid (r.isEmpty = false) := Lib.hid (by simpa using hr)
      clear hr
      go_enter Tryz.func138, Tryz.ntmps138
      go_wp2_with (go_at_call 172; ((with_reducible refine (CP.out).mono ?_); rintro e w1 ⟨rfl, rfl⟩))
      go_ret2
      exact ⟨by rw [HE.out]; rfl, rfl⟩
theorem cut_any (s q : ByteArray) (p : B) (e : q.data.toList = p) (w : World) :
    Calls Tryz.prog 172 #[.string s, .string q] w fun e w' => e = .returned (.tuple #[.string (bs (Lib.trimPrefix (tl s) p)), .bool (Lib.hasPrefix (tl s) p)]) ∧ w = w' := by
  subst e
  refine (Tryz.strings_CutPrefix s q w).mono ?_
  rintro e w' ⟨h1, h2⟩
  exact ⟨h1, h2.symm⟩
theorem below_any (s p : ByteArray) (hp : p.size ≤ 1000000000) (w : World) :
    Calls Tryz.prog 138 #[.string s, .string p] w fun e w' => e = .returned (.tuple #[.string (bs (rest (tl s) (tl p))), .bool (belowB (tl s) (tl p)).isSome]) ∧ w = w' := by
  have CP := Lib.hid (cut_any s (p ++ ⟨#[47]⟩) (tl p ++ [47]) (by rw [ByteArray.data_append]; simp) w)
  have h := below_raw s p hp w (rest (tl s) (tl p)) _ CP
  have e : (Lib.hasPrefix (tl s) (tl p ++ [47]) && !(rest (tl s) (tl p)).isEmpty) = (belowB (tl s) (tl p)).isSome := by
    rcases below_cases (tl s) (tl p) with ⟨h1, h2⟩ | ⟨h1, h2, h3⟩ | ⟨h1, h2, h3⟩
    · rw [h1, h2]; rfl
    · rw [h1, h2, h3]; rfl
    · rw [h1, h3]; simpa using h2
  rw [e] at h
  exact h
/-- files that are answered -/
def FilesSay (m : List Fl) (w : World) (e : Ending) (w' : World) : Prop := (∃ A c, e = .returned (.slice A m.length c) ∧ Fls w' A m ∧ m.length ≤ c) ∧ Below w.heap.size w w'
theorem own_fls {w w0 : World} {v : Value} {m : List Fl} {n B : Nat} (h : w.ownsRow B 71 2 v n (fc m)) (hn : m.length = n) (hb : Below w0.heap.size w0 w) : FilesSay m w0 (.returned v) w := by
  subst hn
  have hv : ∃ A c, v = .slice A m.length c ∧ m.length ≤ c := by
    rcases h.2 with ⟨rfl, h0⟩ | ⟨g, cap, cur, rfl, hB, hg, h1, _⟩
    · exact ⟨none, 0, by rw [h0], by omega⟩
    · exact ⟨_, _, rfl, h1⟩
  obtain ⟨A, c, rfl, hc⟩ := hv
  exact ⟨⟨A, c, rfl, Reads.of_own h, hc⟩, hb⟩
/-- files that are answered in a row of the call's own -/
def FilesOwn (m : List Fl) (w : World) (e : Ending) (w' : World) : Prop := ∃ v, e = .returned v ∧ w'.ownsRow w.heap.size 71 2 v m.length (fc m) ∧ Below w.heap.size w w'
set_option maxHeartbeats 1000000 in
theorem under_own (A : Option Addr) (l : List Fl) (c : Nat) (p : ByteArray) (hp : p.size ≤ 1000000000) (w : World) (hr : Fls w A l) (hs : Small l) :
    Calls Tryz.prog 98 #[.slice A l.length c, .string p] w (FilesOwn (under l (tl p)) w) := by
  obtain ⟨z, hzi, hzs⟩ := infoF
  obtain ⟨i0, hi, hz0, hz1, hz2⟩ := Lg.info_parts hzi
  have RD : Hid (∀ W, Below w.heap.size w W → Reads W w.heap.size 2 A l.length (fc l)) := Lib.hid fun W hW => hr.below hW
  have hl := hs.len
  have HP := Lib.hid hp
  have EN : Hid (∀ W v, W.ownsRow w.heap.size 71 2 v (upto l (tl p) l.length).length (fc (upto l (tl p) l.length)) → Below w.heap.size w W → FilesOwn (under l (tl p)) w (.returned v) W) := Lib.hid fun W v h hb => by
    rw [← upto_all]
    exact ⟨_, rfl, h, hb⟩
  clear hr hs hzi hp
  generalize FilesOwn (under l (tl p)) w = Q at *
  go_enter Tryz.func98, Tryz.ntmps98
  go_wp2_with (fail)
  go_loopw [5, 12] (fun v i W => ∃ k : Nat, i = .int .i64 k ∧ k ≤ l.length ∧ W.ownsRow w.heap.size 71 2 v (upto l (tl p) k).length (fc (upto l (tl p) k)) ∧ Below w.heap.size w W) (fun _ i _ => l.length - (intOf i).toNat)
  case atStart => exact ⟨0, rfl, by omega, World.ownsRow_nil _ _ _ _, Below.refl _ _⟩
  case round =>
    obtain ⟨k, rfl, hk, hown, hb⟩ := hrel
    have HO := Lib.hid hown
    clear hown
    by_cases hlt : k < l.length
    · have hkI : (k : Int) < (l.length : Int) := by omega
      obtain ⟨ad, rfl, had, c0, c1⟩ := Fls.at_ (RD.out _ hb) hlt
      have hul := upto_len l (tl p) k
      have HIT := Lib.hid (fun r => upto_hit (p := tl p) (r := r) hlt)
      have MISS := Lib.hid (upto_miss (p := tl p) hlt)
      generalize upto l (tl p) k = u at *
      generalize l[k] = f at *
      have BL : Hid (∀ W, Calls Tryz.prog 138 #[.string f.p, .string p] W fun e w' => e = .returned (.tuple #[.string (bs (rest (tl f.p) (tl p))), .bool (belowB (tl f.p) (tl p)).isSome]) ∧ W = w') := Lib.hid fun W => below_any f.p p HP.out W
      have hbc := below_cases (tl f.p) (tl p)
      have q0 := heap_alloc_new wr (.cells #[.string f.p, .string f.d] 71)
      rcases (show (belowB (tl f.p) (tl p) = none) ∨ belowB (tl f.p) (tl p) = some (rest (tl f.p) (tl p)) by rcases hbc with ⟨_, h⟩ | ⟨_, _, h⟩ | ⟨_, _, h⟩ <;> simp [h]) with h | h
      · rw [h, Option.isSome_none] at BL
        have F := Lib.hid (MISS.out h)
        clear hbc h HIT MISS
        go_wp2_with (go_at_call 138; ((with_reducible refine (BL.out _).mono ?_); rintro e w1 ⟨rfl, rfl⟩))
        go_roundw
        case rel => exact ⟨k + 1, by go_num, by omega, by rw [F.out]; exact HO.out.alloc _, hb.alloc hb.size _⟩
        case measure => simp [intOf]; omega
      · rw [h, Option.isSome_some] at BL
        have F := Lib.hid (HIT.out _ h)
        clear hbc h HIT MISS
        generalize rest (tl f.p) (tl p) = r at *
        go_wp2_with (first
          | (go_at_call 138; ((with_reducible refine (BL.out _).mono ?_); rintro e w1 ⟨rfl, rfl⟩))
          | (at_builtin; refine wpList_append_any _ rfl (.tmp 24) (.tmp 29) _ rfl w.heap.size 71 i0 _ 2 32 Tryz.underlying22 hi hz0 hz1 hz2 hzs (by omega) _ u.length _ rfl ((HO.out.alloc _).alloc _) _ (some ⟨wr.heap.size + 1, 0, none⟩) 1 1 [.string (bs r), .string f.d] rfl (by first | exact reads2_new _ _ _ _ _ | skip) (fc_cell [⟨bs r, f.d⟩]) (by simp only [maxLen]; omega) (by omega) ((hb.alloc hb.size _).alloc (by simp; have := hb.size; omega) _).size ?_; intro v' w2 hown2 hg2 hat2))
        go_roundw
        case rel =>
          refine ⟨k + 1, by go_num, by omega, ?_, ((hb.alloc hb.size _).alloc (by simp; have := hb.size; omega) _).grown hg2 ?_ ?_⟩
          · rw [F.out, fc_append, List.length_append]; exact hown2
          · simp; have := hb.size; omega
          · intro g hg
            have := hb.size
            exact (HO.out.lt g hg).1
        case measure => simp [intOf]; omega
    · obtain rfl : k = l.length := by omega
      go_wp2_with (fail)
      exact EN.out _ _ HO.out hb
theorem under_any (A : Option Addr) (l : List Fl) (c : Nat) (p : ByteArray) (hp : p.size ≤ 1000000000) (w : World) (hr : Fls w A l) (hs : Small l) :
    Calls Tryz.prog 98 #[.slice A l.length c, .string p] w (FilesSay (under l (tl p)) w) := by
  refine (under_own A l c p hp w hr hs).mono ?_
  rintro e w' ⟨v, rfl, ho, hb⟩
  exact own_fls ho rfl hb
theorem find1_any (a b s : ByteArray) (B : Nat) (W : World) (hB : B < W.heap.size) (hc : W.cell? ⟨B, 0, none⟩ = some (.string s)) :
    Calls Tryz.prog 185 #[.agg #[.string a, .string b], .pointer (some ⟨B, 0, none⟩)] W fun e w' => e = .returned (.bool (decide (tl a = tl s))) ∧ Below W.heap.size W w' := by
  have hne : B ≠ W.heap.size := by omega
  by_cases h : a = s
  · have F : Hid (decide (tl a = tl s) = true) := Lib.hid (decide_eq_true (by rw [h]))
    subst h
    go_enter Tryz.func185, Tryz.ntmps185
    go_wp2_with (fail)
    go_ret
    exact ⟨Lg.ret_bool F.out, (Below.refl _ _).alloc (Nat.le_refl _) _⟩
  · have F : Hid (decide (tl a = tl s) = false) := Lib.hid (decide_eq_false fun e => h (Lg.tl_inj e))
    have g := Lg.s_ne h
    clear h
    go_enter Tryz.func185, Tryz.ntmps185
    go_wp2_with (fail)
    go_ret
    exact ⟨Lg.ret_bool F.out, (Below.refl _ _).alloc (Nat.le_refl _) _⟩
theorem find_any (A : Option Addr) (l : List Fl) (c : Nat) (s : ByteArray) (w : World) (hr : Fls w A l) (hl : l.length ≤ 1000000000) :
    Calls Tryz.prog 142 #[.slice A l.length c, .string s] w fun e w' => e = .returned (.int .i64 (idx (fun f : Fl => decide (tl f.p = tl s)) l)) ∧ Below w.heap.size w w' := by
  obtain ⟨W2, eW⟩ : ∃ W2, W2 = w.alloc (.cells #[.string s] 9) := ⟨_, rfl⟩
  have hb2 : Below w.heap.size w W2 := by rw [eW]; exact (Below.refl _ _).alloc (Nat.le_refl _) _
  have hsz : W2.heap.size = w.heap.size + 1 := by rw [eW]; simp
  have k0 : W2.heap[w.heap.size]? = some (.cells #[.string s] 9 (0, 0)) := by rw [eW]; exact heap_alloc_new w _
  have IX := Lib.hid (indexF_any 185 #[.pointer (some ⟨w.heap.size, 0, none⟩)] (enters_of Tryz.func185 (by kernel_rfl) rfl) (fun f => decide (tl f.p = tl s)) A l c W2 ((hr.below hb2).more hb2.size) hl
    (fun f hf V hV => find1_any _ _ _ _ V (by have := hV.size; omega) ((hV.cell (p := ⟨w.heap.size, 0, none⟩) (by show w.heap.size < _; omega)).trans (Lg.cell_at k0 0))))
  clear k0 hsz hr
  generalize idx (fun f : Fl => decide (tl f.p = tl s)) l = r at *
  go_enter Tryz.func142, Tryz.ntmps142
  go_wp2_with (go_at_call 147; rw [← eW]; (with_reducible refine (IX.out).mono ?_); rintro e w1 ⟨rfl, hb⟩)
  go_ret
  exact ⟨rfl, hb2.trans (hb.mono hb2.size)⟩
/-- what Get answers -/
def GetSays (l : List Fl) (n : B) (w : World) (e : Ending) (w' : World) : Prop := e = .returned (.tuple #[.string ((get l n).getD ⟨#[]⟩), .bool (get l n).isSome]) ∧ Below w.heap.size w w'
theorem get_any (A : Option Addr) (l : List Fl) (c : Nat) (s : ByteArray) (w : World) (hr : Fls w A l) (hl : l.length ≤ 1000000000) :
    Calls Tryz.prog 102 #[.slice A l.length c, .string s] w (GetSays l (tl s) w) := by
  have FA := Lib.hid (find_any A l c s w hr hl)
  rcases idx_cases (fun f : Fl => decide (tl f.p = tl s)) l with ⟨e1, e2⟩ | ⟨k, hk, e1, e2⟩
  · rw [e1] at FA
    have G : Hid (get l (tl s) = none) := Lib.hid (by unfold get; rw [e2]; rfl)
    clear e1 e2 hr
    go_enter Tryz.func102, Tryz.ntmps102
    go_wp2_with (go_at_call 142; (with_reducible refine (FA.out).mono ?_); rintro e w1 ⟨rfl, hb⟩)
    go_ret2
    unfold GetSays
    rw [G.out]
    exact ⟨rfl, hb⟩
  · rw [e1] at FA
    have G : Hid (get l (tl s) = some l[k].d) := Lib.hid (by unfold get; rw [e2]; rfl)
    have hkI : (k : Int) < (l.length : Int) := by omega
    obtain ⟨ad, rfl, had, c0, c1⟩ := Fls.at_ hr hk
    have CL : Hid (∀ W, Below w.heap.size w W → W.cell? ⟨(ad.add (k * 2)).block, (ad.add (k * 2)).off + 1, none⟩ = some (.string l[k].d)) := Lib.hid fun W hW => (hW.cell (by show (ad.add (k * 2)).block < _; rw [block_of_add]; exact had)).trans c1
    clear e1 e2 hr c0 c1
    generalize l[k] = f at *
    go_enter Tryz.func102, Tryz.ntmps102
    go_wp2_with (go_at_call 142; (with_reducible refine (FA.out).mono ?_); rintro e w1 ⟨rfl, hb⟩; have c1 := CL.out _ hb)
    go_ret2
    unfold GetSays
    rw [G.out]
    exact ⟨rfl, hb⟩
end Go.Proofs.YtcpkhaebcmgehaaGreatDoor.Fs
/- Entries as bytes and back, plainly: which entries are right, which entries bytes are. -/
namespace Go.Proofs.YtcpkhaebcmgehaaGreatDoor.Fs
set_option linter.unusedVariables false
/-- may the entry at a place be? -/
def rightAt (l : List En) (i : Nat) (h : i < l.length) : Prop := Lg.pathOk l[i].n = true ∧ (47 : UInt8) ∉ l[i].n ∧ l[i].g.length = 32 ∧ (0 < i → (l[i - 1]'(by omega)).n < l[i].n)
def Right (l : List En) : Prop := ∀ i (h : i < l.length), rightAt l i h
noncomputable def rightB (l : List En) : Bool := @decide (Right l) (Classical.propDecidable _)
theorem rightB_true {l : List En} : rightB l = true ↔ Right l := by unfold rightB; simp
theorem rightB_false {l : List En} : rightB l = false ↔ ¬ Right l := by unfold rightB; simp
theorem right_bad {l : List En} {i : Nat} (hi : i < l.length) (h : ¬ rightAt l i hi) : rightB l = false := rightB_false.2 fun hr => h (hr i hi)
theorem right_all {l : List En} (h : ∀ i (hi : i < l.length), i < l.length → rightAt l i hi) : rightB l = true := rightB_true.2 fun i hi => h i hi hi
/-- entries as bytes -/
noncomputable def encode (l : List En) : B × Int := if rightB l = true then (bytesE l, 0) else ([], 11)
/-- how much is left -/
def left (r : Pk.Rd) : Nat := if r.bad = 0 then r.rest.length else 0
def entOf (l : List B) : Option En :=
  match l with
  | [n, k, g] => if k = [100] then some ⟨n, true, g⟩ else if k = [102] then some ⟨n, false, g⟩ else none
  | _ => none
theorem entOf_some {l : List B} {x : En} (h : entOf l = some x) : l = [x.n, kind x, x.g] := by
  unfold entOf at h
  split at h
  · split at h
    · rename_i hk; injection h with h; subst h; rw [hk]; rfl
    · split at h
      · rename_i hk; injection h with h; subst h; rw [hk]; rfl
      · cases h
  · cases h
theorem entOf_none {l : List B} (h : l.length ≠ 3) : entOf l = none := by
  unfold entOf
  split
  · simp at h
  · rfl
theorem entOf_three {n k g : B} : entOf [n, k, g] = if k = [100] then some ⟨n, true, g⟩ else if k = [102] then some ⟨n, false, g⟩ else none := rfl
def decF : Nat → Pk.Rd → Option (List En × Pk.Rd)
  | 0, _ => none
  | f + 1, r => if left r = 0 then some ([], r) else
    match entOf r.list.1 with
    | none => none
    | some x => (decF f r.list.2).map fun (m, q) => (x :: m, q)
theorem decF_end {f : Nat} {r : Pk.Rd} (h : left r = 0) : decF (f + 1) r = some ([], r) := by rw [decF, if_pos h]
theorem decF_bad {f : Nat} {r : Pk.Rd} (h : left r ≠ 0) (h2 : entOf r.list.1 = none) : decF (f + 1) r = none := by rw [decF, if_neg h, h2]
theorem decF_more {f : Nat} {r : Pk.Rd} {x : En} (h : left r ≠ 0) (h2 : entOf r.list.1 = some x) : decF (f + 1) r = (decF f r.list.2).map fun (m, q) => (x :: m, q) := by rw [decF, if_neg h, h2]
/-- a list of three takes bytes -/
theorem list_less {r : Pk.Rd} {x : En} (h : entOf r.list.1 = some x) : r.list.2.rest.length < r.rest.length := by
  have h0 := entOf_some h
  unfold Pk.Rd.list at h0 ⊢
  cases hl : Pk.lst r.text.1 with
  | none => rw [hl] at h0; cases h0
  | some l =>
    rw [hl] at h0
    simp only at h0 ⊢
    unfold Pk.Rd.text at hl ⊢
    by_cases hb : r.bad ≠ 0
    · rw [if_pos hb] at hl
      simp only at hl
      rw [Pk.lst] at hl
      simp at hl
      subst hl
      cases h0
    · rw [if_neg hb] at hl ⊢
      rcases hn : Pk.nxt r.rest with c | ⟨t, q⟩
      · rw [hn] at hl
        simp only at hl
        rw [Pk.lst] at hl
        simp at hl
        subst hl
        cases h0
      · simp only
        exact Pk.nxt_lt hn
theorem decF_fuel : ∀ (f g : Nat) (r : Pk.Rd), r.rest.length < f → r.rest.length < g → decF f r = decF g r
  | 0, _, _, h, _ => absurd h (by omega)
  | _ + 1, 0, _, _, h => absurd h (by omega)
  | f + 1, g + 1, r, h1, h2 => by
    by_cases hl : left r = 0
    · rw [decF_end hl, decF_end hl]
    · cases he : entOf r.list.1 with
      | none => rw [decF_bad hl he, decF_bad hl he]
      | some x =>
        have := list_less he
        rw [decF_more hl he, decF_more hl he, decF_fuel f g r.list.2 (by omega) (by omega)]
def dec (r : Pk.Rd) : Option (List En × Pk.Rd) := decF (r.rest.length + 1) r
theorem dec_end {r : Pk.Rd} (h : left r = 0) : dec r = some ([], r) := decF_end h
theorem dec_bad {r : Pk.Rd} (h : left r ≠ 0) (h2 : entOf r.list.1 = none) : dec r = none := decF_bad h h2
theorem dec_more {r : Pk.Rd} {x : En} (h : left r ≠ 0) (h2 : entOf r.list.1 = some x) : dec r = (dec r.list.2).map fun (m, q) => (x :: m, q) := by
  have := list_less h2
  rw [dec, decF_more h h2, dec, decF_fuel _ (r.list.2.rest.length + 1) _ (by omega) (by omega)]
/-- what is read is laid as the same bytes -/
theorem decF_back : ∀ (f : Nat) (r : Pk.Rd) (m : List En) (q : Pk.Rd), decF f r = some (m, q) → q.bad = 0 → r.bad = 0 ∧ r.rest = bytesE m ++ q.rest
  | 0, _, _, _, h, _ => by cases h
  | f + 1, r, m, q, h, hq => by
    by_cases hl : left r = 0
    · rw [decF_end hl] at h
      injection h with h
      injection h with h1 h2
      subst h1 h2
      exact ⟨hq, rfl⟩
    · cases he : entOf r.list.1 with
      | none => rw [decF_bad hl he] at h; cases h
      | some x =>
        rw [decF_more hl he] at h
        cases hd : decF f r.list.2 with
        | none => rw [hd] at h; cases h
        | some p =>
          obtain ⟨m', q'⟩ := p
          rw [hd] at h
          injection h with h
          injection h with h1 h2
          subst h1 h2
          obtain ⟨i1, i2⟩ := decF_back f _ _ _ hd hq
          obtain ⟨j1, j2⟩ := Pk.list_bad r i1
          refine ⟨j1, ?_⟩
          have hc : bytesE (x :: m') = Pk.list [x.n, kind x, x.g] ++ bytesE m' := by rw [bytesE, List.flatMap_cons]; rfl
          rw [j2, i2, entOf_some he, hc, List.append_assoc]
theorem dec_back {data : B} {m : List En} {q : Pk.Rd} (h : dec ⟨data, 0⟩ = some (m, q)) (hq : q.fin = 0) : bytesE m = data := by
  obtain ⟨h1, h2⟩ := Pk.fin_zero hq
  have := (decF_back _ _ _ _ h h1).2
  rw [h2, List.append_nil] at this
  exact this.symm
/-- the entries that bytes are -/
noncomputable def decode (data : B) : List En × Int :=
  match dec ⟨data, 0⟩ with
  | none => ([], 11)
  | some (m, q) => if q.fin = 0 ∧ rightB m = true then (m, 0) else ([], 11)
theorem decode_none {data : B} (h : dec ⟨data, 0⟩ = none) : decode data = ([], 11) := by unfold decode; rw [h]
theorem decode_bad {data : B} {m : List En} {q : Pk.Rd} (h : dec ⟨data, 0⟩ = some (m, q)) (h2 : q.fin ≠ 0 ∨ rightB m = false) : decode data = ([], 11) := by
  unfold decode; rw [h]
  simp only
  rw [if_neg]
  rintro ⟨h3, h4⟩
  rcases h2 with h2 | h2
  · exact h2 h3
  · rw [h2] at h4; cases h4
theorem decode_good {data : B} {m : List En} {q : Pk.Rd} (h : dec ⟨data, 0⟩ = some (m, q)) (h2 : q.fin = 0) (h3 : rightB m = true) : decode data = (m, 0) := by
  unfold decode; rw [h]
  simp only
  rw [if_pos ⟨h2, h3⟩]
theorem decode_right {data : B} (h : (decode data).2 = 0) : Right (decode data).1 := by
  unfold decode at h ⊢
  cases hd : dec ⟨data, 0⟩ with
  | none => rw [hd] at h; cases h
  | some p =>
    obtain ⟨m, q⟩ := p
    rw [hd] at h
    simp only at h ⊢
    split at h
    · rename_i hx
      rw [if_pos hx]
      exact rightB_true.1 hx.2
    · cases h
theorem decode_err (data : B) : (decode data).2 = 0 ∨ ((decode data).2 = 11 ∧ (decode data).1 = []) := by
  unfold decode
  cases dec ⟨data, 0⟩ with
  | none => exact .inr ⟨rfl, rfl⟩
  | some p =>
    obtain ⟨m, q⟩ := p
    simp only
    split
    · exact .inl rfl
    · exact .inr ⟨rfl, rfl⟩
theorem dec_count : ∀ (f : Nat) (r : Pk.Rd) (m : List En) (q : Pk.Rd), decF f r = some (m, q) → m.length ≤ r.rest.length
  | 0, _, _, _, h => by cases h
  | f + 1, r, m, q, h => by
    by_cases hl : left r = 0
    · rw [decF_end hl] at h
      injection h with h
      injection h with h1 h2
      subst h1
      simp
    · cases he : entOf r.list.1 with
      | none => rw [decF_bad hl he] at h; cases h
      | some x =>
        rw [decF_more hl he] at h
        have hless := list_less he
        cases hd : decF f r.list.2 with
        | none => rw [hd] at h; cases h
        | some p =>
          obtain ⟨m', q'⟩ := p
          rw [hd] at h
          injection h with h
          injection h with h1 h2
          subst h1 h2
          have := dec_count f _ _ _ hd
          rw [List.length_cons]; omega
theorem decode_count (data : B) : (decode data).1.length ≤ data.length := by
  unfold decode
  cases hd : dec ⟨data, 0⟩ with
  | none => simp
  | some p =>
    obtain ⟨m, q⟩ := p
    simp only
    split
    · exact dec_count _ _ _ _ hd
    · simp
end Go.Proofs.YtcpkhaebcmgehaaGreatDoor.Fs
/- What is wrong with files, plainly; the entries of right files are right. -/
namespace Go.Proofs.YtcpkhaebcmgehaaGreatDoor.Fs
set_option linter.unusedVariables false
theorem head_free (s : B) : (47 : UInt8) ∉ head s := fun h => by
  have : ∀ (l : B) (x : UInt8), x ∈ l.takeWhile (fun c => decide (c ≠ 47)) → x ≠ 47 := by
    intro l
    induction l with
    | nil => intro x h; cases h
    | cons a l ih =>
      intro x h
      rw [List.takeWhile_cons] at h
      split at h
      · rename_i ha
        rcases List.mem_cons.1 h with rfl | h
        · simpa using ha
        · exact ih x h
      · cases h
  exact this s 47 h rfl
theorem head_split (s : B) : s = head s ∨ ∃ r, s = head s ++ 47 :: r := by
  induction s with
  | nil => exact .inl rfl
  | cons a l ih =>
    by_cases ha : a = 47
    · subst ha
      exact .inr ⟨l, rfl⟩
    · have e : head (a :: l) = a :: head l := by unfold head; rw [List.takeWhile_cons, if_pos (decide_eq_true ha)]
      rw [e]
      rcases ih with h | ⟨r, h⟩
      · exact .inl (by rw [← h])
      · exact .inr ⟨r, by rw [List.cons_append, ← h]⟩
theorem head_ok {s : B} (h : Lg.pathOk s = true) : Lg.pathOk (head s) = true := by
  unfold Lg.pathOk at h ⊢
  simp only [Bool.and_eq_true, decide_eq_true_eq] at h ⊢
  obtain ⟨⟨h1, h2⟩, h3⟩ := h
  have hl := head_len s
  have hp : Lg.partOk (head s) = true := by
    have hm : head s ∈ Lg.splitB 47 s := by
      rcases head_split s with e | ⟨r, e⟩
      · have : Lg.splitB 47 s = [s] := Lg.split_free (by rw [e]; exact head_free s)
        rw [this, ← e]; simp
      · have : Lg.splitB 47 s = head s :: Lg.splitB 47 r := by conv => lhs; rw [e, Lg.split_app (head_free s)]
        rw [this]; simp
    exact List.all_eq_true.1 h3 _ hm
  refine ⟨⟨?_, by omega⟩, ?_⟩
  · unfold Lg.partOk at hp
    simp only [Bool.and_eq_true, Bool.not_eq_true'] at hp
    have := hp.1.1.2
    cases e : head s with
    | nil => rw [e] at this; cases this
    | cons a l => simp
  · rw [Lg.split_free (head_free s)]; simp [hp]
theorem dir_right {l : List Fl} (h : ∀ f ∈ l, Lg.pathOk (tl f.p) = true) : Right (dir l) := by
  have hn : ∀ n ∈ names l, Lg.pathOk n = true ∧ (47 : UInt8) ∉ n := fun n hn => by
    obtain ⟨f, hf, rfl⟩ := mem_names.1 hn
    exact ⟨head_ok (h f hf), head_free _⟩
  intro i hi
  have hi' : i < (names l).length := by rw [← dir_len]; exact hi
  have e : ∀ j (hj : j < (dir l).length), (dir l)[j] = entry l ((names l)[j]'(by rw [← dir_len]; exact hj)) := fun j hj => by
    have : ∀ (m : List En) (hm : m = (names l).map (entry l)) (hj : j < m.length), m[j] = entry l ((names l)[j]'(by rw [hm] at hj; simpa using hj)) := by
      intro m hm hj
      subst hm
      simp
    exact this _ (dir_map l) hj
  unfold rightAt
  rw [e i hi, entry_n]
  obtain ⟨h1, h2⟩ := hn _ (List.getElem_mem hi')
  refine ⟨h1, h2, ?_, fun h0 => ?_⟩
  · cases hg : get l ((names l)[i]) with
    | some d => rw [entry_file hg]; exact Blk.sum_len _
    | none => rw [entry_dir hg]; exact Blk.sum_len _
  · rw [e (i - 1) (by omega), entry_n]
    have hr : (names l).Pairwise (· < ·) := by rw [names_eq]; exact insAll_rising _ List.Pairwise.nil
    exact List.pairwise_iff_getElem.1 hr _ _ (by omega) hi' (by omega)
/-- what is wrong with a file -/
def badF (f : Fl) : Option Int := if Lg.pathOk (tl f.p) = false then some 13 else if 2048 < f.d.size then some 15 else none
/-- do two of them not go together? -/
def Twice (l : List Fl) : Prop := (∃ i, ∃ (h : i < l.length), 0 < i ∧ ¬ tl (l[i - 1]'(by omega)).p < tl l[i].p) ∨ ∃ i, ∃ (h : i < l.length), ∃ k, ∃ (hk : k < l.length), (belowB (tl l[i].p) (tl l[k].p)).isSome = true
/-- what is wrong with files -/
noncomputable def checkE (l : List Fl) : Int :=
  match l.findSome? badF with
  | some c => c
  | none => if 32 < l.length then 15 else @ite _ (Twice l) (Classical.propDecidable _) 16 0
theorem check_ok {l : List Fl} (h : checkE l = 0) : ∀ f ∈ l, Lg.pathOk (tl f.p) = true := by
  unfold checkE at h
  cases hf : l.findSome? badF with
  | some c =>
    rw [hf] at h
    obtain ⟨f, hm, hb⟩ := List.exists_of_findSome?_eq_some hf
    unfold badF at hb
    simp only at h
    subst h
    split at hb
    · injection hb with hb; cases hb
    · split at hb
      · injection hb with hb; cases hb
      · cases hb
  | none =>
    intro f hm
    have := List.findSome?_eq_none_iff.1 hf f hm
    unfold badF at this
    split at this
    · cases this
    · rename_i hx; simpa using hx
theorem check_small {l : List Fl} (h : checkE l = 0) : l.length ≤ 32 ∧ ∀ f ∈ l, f.p.size ≤ 48 ∧ f.d.size ≤ 2048 := by
  have hp := check_ok h
  unfold checkE at h
  cases hf : l.findSome? badF with
  | some c =>
    rw [hf] at h
    obtain ⟨f, hm, hb⟩ := List.exists_of_findSome?_eq_some hf
    unfold badF at hb
    simp only at h
    subst h
    split at hb
    · injection hb with hb; cases hb
    · split at hb
      · injection hb with hb; cases hb
      · cases hb
  | none =>
    rw [hf] at h
    simp only at h
    split at h
    · cases h
    · refine ⟨by omega, fun f hm => ⟨?_, ?_⟩⟩
      · have := hp f hm
        unfold Lg.pathOk at this
        simp only [Bool.and_eq_true, decide_eq_true_eq] at this
        have := this.1.2
        rw [tl_len] at this
        exact this
      · have h2 := List.findSome?_eq_none_iff.1 hf f hm
        unfold badF at h2
        split at h2
        · cases h2
        · split at h2
          · cases h2
          · omega
/-- for the walks: the first wrong file -/
theorem check_first {l : List Fl} {k : Nat} {c : Int} (hk : k < l.length) (h : ∀ j (hj : j < l.length), j < k → badF l[j] = none) (h2 : badF l[k] = some c) : checkE l = c := by
  have : l.findSome? badF = some c := by
    induction l generalizing k with
    | nil => simp at hk
    | cons a l ih =>
      cases k with
      | zero => rw [List.findSome?_cons, show badF a = some c from h2]
      | succ k =>
        rw [List.findSome?_cons, show badF a = none from h 0 (by simp) (by omega)]
        exact ih (k := k) (by simpa using hk) (fun j hj hjk => h (j + 1) (by simpa using hj) (by omega)) h2
  unfold checkE
  rw [this]
theorem find_none {l : List Fl} (h : ∀ j (hj : j < l.length), j < l.length → badF l[j] = none) : l.findSome? badF = none := List.findSome?_eq_none_iff.2 fun f hf => by
  obtain ⟨j, hj, rfl⟩ := List.mem_iff_getElem.1 hf
  exact h j hj hj
theorem check_many {l : List Fl} (h : ∀ j (hj : j < l.length), j < l.length → badF l[j] = none) (h2 : 32 < l.length) : checkE l = 15 := by
  unfold checkE
  rw [find_none h]
  exact if_pos h2
theorem check_twice {l : List Fl} (h : ∀ j (hj : j < l.length), j < l.length → badF l[j] = none) (h2 : ¬ 32 < l.length) (h3 : Twice l) : checkE l = 16 := by
  unfold checkE
  rw [find_none h]
  simp only
  rw [if_neg h2, if_pos h3]
theorem check_good {l : List Fl} (h : ∀ j (hj : j < l.length), j < l.length → badF l[j] = none) (h2 : ¬ 32 < l.length) (h3 : ¬ Twice l) : checkE l = 0 := by
  unfold checkE
  rw [find_none h]
  simp only
  rw [if_neg h2, if_neg h3]
end Go.Proofs.YtcpkhaebcmgehaaGreatDoor.Fs
/- What is needed to have files again, plainly. -/
namespace Go.Proofs.YtcpkhaebcmgehaaGreatDoor.Fs
set_option linter.unusedVariables false
set_option maxRecDepth 100000
noncomputable def downF : Nat → List Fl → List B
  | 0, _ => []
  | k + 1, l => (if rightB (dir l) = true then [bytesE (dir l)] else []) ++ (dir l).flatMap fun x => if x.dir = true then downF k (under l x.n) else []
/-- the bytes of the directory of files, and of all in it -/
noncomputable def downL (l : List Fl) : List B := downF (bulk l + 1) l
theorem dir_nil : dir [] = [] := by rw [dir_map, names_nil]; rfl
theorem downF_more : ∀ (k j : Nat) (l : List Fl), bulk l < k → bulk l < j → downF k l = downF j l
  | 0, _, _, h, _ => absurd h (by omega)
  | _ + 1, 0, _, _, h => absurd h (by omega)
  | k + 1, j + 1, l, h1, h2 => by
    rw [downF, downF]
    congr 1
    by_cases hl : l = []
    · subst hl; rw [dir_nil]; rfl
    · have : ∀ x : En, (if x.dir = true then downF k (under l x.n) else []) = if x.dir = true then downF j (under l x.n) else [] := fun x => by
        have := bulk_under_lt x.n hl
        rw [downF_more k j (under l x.n) (by omega) (by omega)]
      simp only [this]
theorem downL_eq (l : List Fl) : downL l = (if rightB (dir l) = true then [bytesE (dir l)] else []) ++ (dir l).flatMap fun x => if x.dir = true then downL (under l x.n) else [] := by
  rw [downL, downF]
  congr 1
  by_cases hl : l = []
  · subst hl; rw [dir_nil]; rfl
  · have : ∀ x : En, (if x.dir = true then downF (bulk l) (under l x.n) else []) = if x.dir = true then downL (under l x.n) else [] := fun x => by
      have := bulk_under_lt x.n hl
      rw [downL, downF_more (bulk l) (bulk (under l x.n) + 1) (under l x.n) (by omega) (by omega)]
    simp only [this]
/-- what one entry needs -/
noncomputable def needE (l : List Fl) (x : En) : List B := if x.dir = true then downL (under l x.n) else []
noncomputable def firstE (l : List Fl) : List B := if rightB (dir l) = true then [bytesE (dir l)] else []
/-- what is gone through up to an entry -/
noncomputable def downTo (l : List Fl) (k : Nat) : List B := firstE l ++ ((dir l).take k).flatMap (needE l)
theorem downTo_zero (l : List Fl) : downTo l 0 = firstE l := by simp [downTo]
theorem downTo_next {l : List Fl} {k : Nat} (hk : k < (dir l).length) : downTo l (k + 1) = downTo l k ++ needE l (dir l)[k] := by
  rw [downTo, List.take_succ_eq_append_getElem hk, List.flatMap_append, ← List.append_assoc]; simp [downTo]
theorem downTo_all (l : List Fl) : downTo l (dir l).length = downL l := by
  rw [downTo, List.take_length, downL_eq]; rfl
/-- all that is needed -/
noncomputable def blobs (l : List Fl) : List B := insAll (l.map (fun f => tl f.d) ++ downL l) []
/-- how often a head stands -/
def cnt (l : List Fl) (n : B) : Nat := (l.map fun f => if head (tl f.p) = n then 1 else 0).sum
def gof (f : Fl) (n : B) : Nat := bulk (under [f] n) + if head (tl f.p) = n then 1 else 0
theorem head_of_below {s n r : B} (hn : (47 : UInt8) ∉ n) (h : belowB s n = some r) : head s = n := by
  obtain ⟨h1, ⟨t, h2⟩⟩ := below_tl h
  have : ∀ (n : B), (47 : UInt8) ∉ n → head (n ++ 47 :: t) = n := by
    intro n
    induction n with
    | nil => intro _; rfl
    | cons a n ih =>
      intro hn
      have ha : a ≠ 47 := fun e => hn (by simp [e])
      have := ih (fun e => hn (by simp [e]))
      unfold head at this ⊢
      rw [List.cons_append, List.takeWhile_cons, if_pos (decide_eq_true ha), this]
  rw [← h2, List.append_assoc]
  exact this n hn
theorem sum_zero : ∀ {l : List B} {g : B → Nat}, (∀ m ∈ l, g m = 0) → (l.map g).sum = 0
  | [], _, _ => rfl
  | a :: l, g, h => by
    rw [List.map_cons, List.sum_cons, h a (by simp), sum_zero (l := l) fun m hm => h m (by simp [hm])]
theorem bulk_nil : bulk [] = 0 := rfl
theorem gof_zero {f : Fl} {n : B} (hn : (47 : UInt8) ∉ n) (h : head (tl f.p) ≠ n) : gof f n = 0 := by
  unfold gof
  rw [if_neg h, under_cons]
  cases e : belowB (tl f.p) n with
  | none => rfl
  | some r => exact absurd (head_of_below hn e) h
theorem gof_le (f : Fl) (n : B) : gof f n ≤ f.p.size + 1 := by
  unfold gof
  rw [under_cons]
  cases e : belowB (tl f.p) n with
  | none =>
    simp only
    rw [show under [] n = [] from rfl, bulk_nil]
    split <;> omega
  | some r =>
    have := below_len e
    rw [tl_len] at this
    simp only
    rw [show under [] n = [] from rfl, bulk_cons, bulk_nil, bs_len]
    split <;> omega
theorem gof_sum (f : Fl) : ∀ ns : List B, ns.Nodup → (∀ n ∈ ns, (47 : UInt8) ∉ n) → (ns.map (gof f)).sum ≤ f.p.size + 1
  | [], _, _ => by simp
  | n :: ns, h, hn => by
    have h' := List.nodup_cons.1 h
    rw [List.map_cons, List.sum_cons]
    by_cases e : head (tl f.p) = n
    · have : (ns.map (gof f)).sum = 0 := by
        exact sum_zero fun m hm => gof_zero (hn m (by simp [hm])) (fun e2 => h'.1 (by rw [← e, e2]; exact hm))
      have := gof_le f n
      omega
    · rw [gof_zero (hn n (by simp)) e]
      have := gof_sum f ns h'.2 (fun m hm => hn m (by simp [hm]))
      omega
theorem sum_add {α : Type} (a b : α → Nat) : ∀ l : List α, (l.map fun x => a x + b x).sum = (l.map a).sum + (l.map b).sum
  | [] => rfl
  | x :: l => by simp only [List.map_cons, List.sum_cons, sum_add a b l]; omega
theorem bulk_append (a b : List Fl) : bulk (a ++ b) = bulk a + bulk b := by simp [bulk]
theorem bulk_split : ∀ (l : List Fl) (ns : List B), ns.Nodup → (∀ n ∈ ns, (47 : UInt8) ∉ n) → (ns.map fun n => bulk (under l n) + cnt l n).sum ≤ bulk l
  | [], ns, _, _ => by
    rw [sum_zero (l := ns) (g := fun n => bulk (under [] n) + cnt [] n) fun m hm => rfl]; exact Nat.zero_le _
  | f :: l, ns, h, hn => by
    have ih := bulk_split l ns h hn
    have e : ∀ n, bulk (under (f :: l) n) + cnt (f :: l) n = gof f n + (bulk (under l n) + cnt l n) := fun n => by
      have e1 : under (f :: l) n = under [f] n ++ under l n := under_append [f] l n
      rw [e1, bulk_append]
      simp only [gof, cnt, List.map_cons, List.sum_cons]
      omega
    simp only [e]
    rw [sum_add, bulk_cons]
    have := gof_sum f ns h hn
    omega
theorem cnt_pos : ∀ {l : List Fl} {n : B}, (∃ f ∈ l, head (tl f.p) = n) → 1 ≤ cnt l n
  | [], n, h => by obtain ⟨f, hf, _⟩ := h; cases hf
  | a :: l, n, ⟨f, hf, e⟩ => by
    simp only [cnt, List.map_cons, List.sum_cons]
    rcases List.mem_cons.1 hf with rfl | hf
    · rw [if_pos e]; omega
    · have := cnt_pos (l := l) ⟨f, hf, e⟩
      unfold cnt at this
      omega
theorem names_nodup (l : List Fl) : (names l).Nodup := by
  rw [names_eq]
  exact (insAll_rising _ List.Pairwise.nil).imp (fun h e => by subst e; exact List.lt_irrefl _ h)
theorem names_sum (l : List Fl) : ((names l).map fun n => bulk (under l n) + 1).sum ≤ bulk l := by
  refine Nat.le_trans ?_ (bulk_split l (names l) (names_nodup l) (fun n hn => by
    obtain ⟨f, _, rfl⟩ := mem_names.1 hn
    exact head_free _))
  have : ∀ ns : List B, (∀ n ∈ ns, n ∈ names l) → (ns.map fun n => bulk (under l n) + 1).sum ≤ (ns.map fun n => bulk (under l n) + cnt l n).sum := by
    intro ns
    induction ns with
    | nil => intro _; simp
    | cons n ns ih =>
      intro h
      rw [List.map_cons, List.map_cons, List.sum_cons, List.sum_cons]
      have h1 := cnt_pos (mem_names.1 (h n (by simp)))
      have h2 := ih fun m hm => h m (by simp [hm])
      omega
  exact this _ fun n hn => hn
/-- how many there are -/
theorem down_len : ∀ (k : Nat) (l : List Fl), bulk l < k → (downL l).length ≤ bulk l + 1
  | 0, _, h => absurd h (by omega)
  | k + 1, l, h => by
    rw [downL_eq, List.length_append]
    have h1 : (if rightB (dir l) = true then [bytesE (dir l)] else []).length ≤ 1 := by split <;> simp
    have h2 : ∀ ns : List B, (∀ n ∈ ns, n ∈ names l) → ((ns.map (entry l)).flatMap fun x => if x.dir = true then downL (under l x.n) else []).length ≤ (ns.map fun n => bulk (under l n) + 1).sum := by
      intro ns
      induction ns with
      | nil => intro _; simp
      | cons n ns ih =>
        intro hm
        have h3 := ih fun m hm' => hm m (by simp [hm'])
        have hne := name_ne (hm n (by simp))
        have h4 := bulk_under_lt n hne
        have h5 := down_len k (under l n) (by omega)
        rw [List.map_cons, List.flatMap_cons, List.length_append, List.map_cons, List.sum_cons, entry_n]
        have h6 : (if (entry l n).dir = true then downL (under l n) else []).length ≤ bulk (under l n) + 1 := by
          split
          · exact h5
          · simp
        omega
    have h3 := h2 (names l) fun n hn => hn
    have h4 := names_sum l
    rw [← dir_map] at h3
    omega
theorem bulk_le {l : List Fl} (h : Small l) : bulk l ≤ 200 * 1001 := by
  have : ∀ l : List Fl, (∀ f ∈ l, f.p.size ≤ 1000) → bulk l ≤ l.length * 1001 := by
    intro l
    induction l with
    | nil => intro _; simp [bulk]
    | cons a l ih =>
      intro h
      have h1 := ih fun f hf => h f (by simp [hf])
      have h2 := h a (by simp)
      rw [bulk_cons, List.length_cons]; omega
  have h1 := this l fun f hf => (h.each f hf).1
  have := h.len
  omega
theorem down_small {l : List Fl} (h : Small l) : (downL l).length ≤ 200201 := by
  have := down_len (bulk l + 1) l (by omega)
  have := bulk_le h
  omega
theorem downTo_len {l : List Fl} (k : Nat) : (downTo l k).length ≤ (downL l).length := by
  have e : (downL l).length = (downTo l k).length + (((dir l).drop k).flatMap (needE l)).length := by
    rw [← downTo_all, downTo, downTo, List.take_length]
    conv => lhs; rw [← List.take_append_drop k (dir l)]
    rw [List.flatMap_append]
    simp only [List.length_append]
    omega
  omega
end Go.Proofs.YtcpkhaebcmgehaaGreatDoor.Fs
