/- Joined by mkmerged.py: FsPaths, FsCode, FsRight. -/
import Derived.Test.YthkaehnhdldbbaaGreatDoorMe18
import Derived.Test.YthkaehnhdldbbaaGreatDoorMe16
import Derived.Test.YthkaehnhdldbbaaGreatDoorMe03
import Derived.IntWalk
import Derived.Test.YthkaehnhdldbbaaGreatDoorMeKm
import Derived.Test.YthkaehnhdldbbaaGreatDoorMe04
import Derived.BigQuiet
import Derived.Lib.IndexAny
import Derived.Sort.Walk0
import Derived.Laws.Cover1
/- FsPaths, what a claim needs of it (prune.py). -/
namespace Go.Proofs.YthkaehnhdldbbaaGreatDoor.Fs
open Go.RowKit
set_option linter.unusedVariables false
set_option maxRecDepth 100000
def rest (s p : B) : B := Lib.trimPrefix s (p ++ [47])
theorem below_cases (s p : B) : (Lib.hasPrefix s (p ++ [47]) = false ∧ belowB s p = none) ∨ (Lib.hasPrefix s (p ++ [47]) = true ∧ rest s p = [] ∧ belowB s p = none) ∨ (Lib.hasPrefix s (p ++ [47]) = true ∧ rest s p ≠ [] ∧ belowB s p = some (rest s p)) := by
  cases h : Lib.hasPrefix s (p ++ [47]) with
  | false =>
    refine .inl ⟨rfl, ?_⟩
    unfold belowB
    rw [if_neg]
    intro hh
    have : Lib.hasPrefix s (p ++ [47]) = true := List.isPrefixOf_iff_prefix.2 hh.1
    rw [h] at this; cases this
  | true =>
    have hp : (p ++ [47]) <+: s := List.isPrefixOf_iff_prefix.1 h
    have hr : rest s p = s.drop (p.length + 1) := by
      unfold rest Lib.trimPrefix
      rw [if_pos h]; simp
    have hl := hp.length_le
    simp only [List.length_append, List.length_singleton] at hl
    by_cases h1 : p.length + 1 < s.length
    · refine .inr (.inr ⟨rfl, ?_, ?_⟩)
      · rw [hr]
        intro e
        have := congrArg List.length e
        simp at this
        omega
      · unfold belowB
        rw [if_pos ⟨hp, h1⟩, hr]
    · refine .inr (.inl ⟨rfl, ?_, ?_⟩)
      · rw [hr]
        exact List.drop_eq_nil_of_le (by omega)
      · unfold belowB
        rw [if_neg (fun hh => h1 hh.2)]
theorem below_raw (s p : ByteArray) (hp : p.size ≤ 1000000000) (w : World) (r : B) (h : Bool) (CP : Hid (Calls Tryz.prog 125 #[.string s, .string (p ++ ⟨#[47]⟩)] w fun e w' => e = .returned (.tuple #[.string (bs r), .bool h]) ∧ w = w')) :
    Calls Tryz.prog 70 #[.string s, .string p] w fun e w' => e = .returned (.tuple #[.string (bs r), .bool (h && !r.isEmpty)]) ∧ w = w' := by
  cases h
  · go_enter Tryz.func70, Tryz.ntmps70
    go_wp2_with (go_at_call 125; ((with_reducible refine (CP.out).mono ?_); rintro e w1 ⟨rfl, rfl⟩))
    go_ret2
    exact ⟨rfl, rfl⟩
  · by_cases hr : r = []
    · subst hr
      go_enter Tryz.func70, Tryz.ntmps70
      go_wp2_with (go_at_call 125; ((with_reducible refine (CP.out).mono ?_); rintro e w1 ⟨rfl, rfl⟩; rw [bs_nil]))
      go_ret2
      exact ⟨rfl, rfl⟩
    · have g := bs_ne hr
      have HE : Hid (r.isEmpty = false) := Lib.hid (by simpa using hr)
      clear hr
      go_enter Tryz.func70, Tryz.ntmps70
      go_wp2_with (go_at_call 125; ((with_reducible refine (CP.out).mono ?_); rintro e w1 ⟨rfl, rfl⟩))
      go_ret2
      exact ⟨by rw [HE.out]; rfl, rfl⟩
theorem cut_any (s q : ByteArray) (p : B) (e : q.data.toList = p) (w : World) :
    Calls Tryz.prog 125 #[.string s, .string q] w fun e w' => e = .returned (.tuple #[.string (bs (Lib.trimPrefix (tl s) p)), .bool (Lib.hasPrefix (tl s) p)]) ∧ w = w' := by
  subst e
  refine (Tryz.strings_CutPrefix s q w).mono ?_
  rintro e w' ⟨h1, h2⟩
  exact ⟨h1, h2.symm⟩
theorem below_any (s p : ByteArray) (hp : p.size ≤ 1000000000) (w : World) :
    Calls Tryz.prog 70 #[.string s, .string p] w fun e w' => e = .returned (.tuple #[.string (bs (rest (tl s) (tl p))), .bool (belowB (tl s) (tl p)).isSome]) ∧ w = w' := by
  have CP := Lib.hid (cut_any s (p ++ ⟨#[47]⟩) (tl p ++ [47]) (by rw [ByteArray.data_append]; simp) w)
  have h := below_raw s p hp w (rest (tl s) (tl p)) _ CP
  have e : (Lib.hasPrefix (tl s) (tl p ++ [47]) && !(rest (tl s) (tl p)).isEmpty) = (belowB (tl s) (tl p)).isSome := by
    rcases below_cases (tl s) (tl p) with ⟨h1, h2⟩ | ⟨h1, h2, h3⟩ | ⟨h1, h2, h3⟩
    · rw [h1, h2]; rfl
    · rw [h1, h2, h3]; rfl
    · rw [h1, h3]; simpa using h2
  rw [e] at h
  exact h
def FilesOwn (m : List Fl) (w : World) (e : Ending) (w' : World) : Prop := ∃ v, e = .returned v ∧ w'.ownsRow w.heap.size 37 2 v m.length (fc m) ∧ Below w.heap.size w w'
set_option maxHeartbeats 1000000 in
theorem under_own (A : Option Addr) (l : List Fl) (c : Nat) (p : ByteArray) (hp : p.size ≤ 1000000000) (w : World) (hr : Fls w A l) (hs : Small l) :
    Calls Tryz.prog 34 #[.slice A l.length c, .string p] w (FilesOwn (under l (tl p)) w) := by
  obtain ⟨z, hzi, hzs⟩ := infoF
  obtain ⟨i0, hi, hz0, hz1, hz2⟩ := Lg.info_parts hzi
  have RD : Hid (∀ W, Below w.heap.size w W → Reads W w.heap.size 2 A l.length (fc l)) := Lib.hid fun W hW => hr.below hW
  have hl := hs.len
  have HP := Lib.hid hp
  have EN : Hid (∀ W v, W.ownsRow w.heap.size 37 2 v (upto l (tl p) l.length).length (fc (upto l (tl p) l.length)) → Below w.heap.size w W → FilesOwn (under l (tl p)) w (.returned v) W) := Lib.hid fun W v h hb => by
    rw [← upto_all]
    exact ⟨_, rfl, h, hb⟩
  clear hr hs hzi hp
  generalize FilesOwn (under l (tl p)) w = Q at *
  go_enter Tryz.func34, Tryz.ntmps34
  go_wp2_with (fail)
  go_loopw [5, 12] (fun v i W => ∃ k : Nat, i = .int .i64 k ∧ k ≤ l.length ∧ W.ownsRow w.heap.size 37 2 v (upto l (tl p) k).length (fc (upto l (tl p) k)) ∧ Below w.heap.size w W) (fun _ i _ => l.length - (intOf i).toNat)
  case atStart => exact ⟨0, rfl, by omega, World.ownsRow_nil _ _ _ _, Below.refl _ _⟩
  case round =>
    obtain ⟨k, rfl, hk, hown, hb⟩ := hrel
    have HO := Lib.hid hown
    clear hown
    by_cases hlt : k < l.length
    · have hkI : (k : Int) < (l.length : Int) := by omega
      obtain ⟨ad, rfl, had, c0, c1⟩ := Fls.at_ (RD.out _ hb) hlt
      have hul := upto_len l (tl p) k
      have HIT := Lib.hid (fun r => upto_hit (p := tl p) (r := r) hlt)
      have MISS := Lib.hid (upto_miss (p := tl p) hlt)
      generalize upto l (tl p) k = u at *
      generalize l[k] = f at *
      have BL : Hid (∀ W, Calls Tryz.prog 70 #[.string f.p, .string p] W fun e w' => e = .returned (.tuple #[.string (bs (rest (tl f.p) (tl p))), .bool (belowB (tl f.p) (tl p)).isSome]) ∧ W = w') := Lib.hid fun W => below_any f.p p HP.out W
      have hbc := below_cases (tl f.p) (tl p)
      have q0 := heap_alloc_new wr (.cells #[.string f.p, .string f.d] 37)
      rcases (show (belowB (tl f.p) (tl p) = none) ∨ belowB (tl f.p) (tl p) = some (rest (tl f.p) (tl p)) by rcases hbc with ⟨_, h⟩ | ⟨_, _, h⟩ | ⟨_, _, h⟩ <;> simp [h]) with h | h
      · rw [h, Option.isSome_none] at BL
        have F := Lib.hid (MISS.out h)
        clear hbc h HIT MISS
        go_wp2_with (go_at_call 70; ((with_reducible refine (BL.out _).mono ?_); rintro e w1 ⟨rfl, rfl⟩))
        go_roundw
        case rel => exact ⟨k + 1, by go_num, by omega, by rw [F.out]; exact HO.out.alloc _, hb.alloc hb.size _⟩
        case measure => simp [intOf]; omega
      · rw [h, Option.isSome_some] at BL
        have F := Lib.hid (HIT.out _ h)
        clear hbc h HIT MISS
        generalize rest (tl f.p) (tl p) = r at *
        go_wp2_with (first
          | (go_at_call 70; ((with_reducible refine (BL.out _).mono ?_); rintro e w1 ⟨rfl, rfl⟩))
          | (at_builtin; refine wpList_append_any _ rfl (.tmp 24) (.tmp 29) _ rfl w.heap.size 37 i0 _ 2 32 Tryz.underlying23 hi hz0 hz1 hz2 hzs (by omega) _ u.length _ rfl ((HO.out.alloc _).alloc _) _ (some ⟨wr.heap.size + 1, 0, none⟩) 1 1 [.string (bs r), .string f.d] rfl (by first | exact reads2_new _ _ _ _ _ | skip) (fc_cell [⟨bs r, f.d⟩]) (by simp only [maxLen]; omega) (by omega) ((hb.alloc hb.size _).alloc (by simp; have := hb.size; omega) _).size ?_; intro v' w2 hown2 hg2 hat2))
        go_roundw
        case rel =>
          refine ⟨k + 1, by go_num, by omega, ?_, ((hb.alloc hb.size _).alloc (by simp; have := hb.size; omega) _).grown hg2 ?_ ?_⟩
          · rw [F.out, fc_append, List.length_append]; exact hown2
          · simp; have := hb.size; omega
          · intro g hg
            have := hb.size
            exact (HO.out.lt g hg).1
        case measure => simp [intOf]; omega
    · obtain rfl : k = l.length := by omega
      go_wp2_with (fail)
      exact EN.out _ _ HO.out hb
theorem find1_any (a b s : ByteArray) (B : Nat) (W : World) (hB : B < W.heap.size) (hc : W.cell? ⟨B, 0, none⟩ = some (.string s)) :
    Calls Tryz.prog 186 #[.agg #[.string a, .string b], .pointer (some ⟨B, 0, none⟩)] W fun e w' => e = .returned (.bool (decide (tl a = tl s))) ∧ Below W.heap.size W w' := by
  have hne : B ≠ W.heap.size := by omega
  by_cases h : a = s
  · have F : Hid (decide (tl a = tl s) = true) := Lib.hid (decide_eq_true (by rw [h]))
    subst h
    go_enter Tryz.func186, Tryz.ntmps186
    go_wp2_with (fail)
    go_ret
    exact ⟨Lg.ret_bool F.out, (Below.refl _ _).alloc (Nat.le_refl _) _⟩
  · have F : Hid (decide (tl a = tl s) = false) := Lib.hid (decide_eq_false fun e => h (Lg.tl_inj e))
    have g := Lg.s_ne h
    clear h
    go_enter Tryz.func186, Tryz.ntmps186
    go_wp2_with (fail)
    go_ret
    exact ⟨Lg.ret_bool F.out, (Below.refl _ _).alloc (Nat.le_refl _) _⟩
theorem find_any (A : Option Addr) (l : List Fl) (c : Nat) (s : ByteArray) (w : World) (hr : Fls w A l) (hl : l.length ≤ 1000000000) :
    Calls Tryz.prog 137 #[.slice A l.length c, .string s] w fun e w' => e = .returned (.int .i64 (idx (fun f : Fl => decide (tl f.p = tl s)) l)) ∧ Below w.heap.size w w' := by
  obtain ⟨W2, eW⟩ : ∃ W2, W2 = w.alloc (.cells #[.string s] 9) := ⟨_, rfl⟩
  have hb2 : Below w.heap.size w W2 := by rw [eW]; exact (Below.refl _ _).alloc (Nat.le_refl _) _
  have hsz : W2.heap.size = w.heap.size + 1 := by rw [eW]; simp
  have k0 : W2.heap[w.heap.size]? = some (.cells #[.string s] 9 (0, 0)) := by rw [eW]; exact heap_alloc_new w _
  have IX := Lib.hid (indexF_any 186 #[.pointer (some ⟨w.heap.size, 0, none⟩)] (enters_of Tryz.func186 (by kernel_rfl) rfl) (fun f => decide (tl f.p = tl s)) A l c W2 ((hr.below hb2).more hb2.size) hl
    (fun f hf V hV => find1_any _ _ _ _ V (by have := hV.size; omega) ((hV.cell (p := ⟨w.heap.size, 0, none⟩) (by show w.heap.size < _; omega)).trans (Lg.cell_at k0 0))))
  clear k0 hsz hr
  generalize idx (fun f : Fl => decide (tl f.p = tl s)) l = r at *
  go_enter Tryz.func137, Tryz.ntmps137
  go_wp2_with (go_at_call 91; rw [← eW]; (with_reducible refine (IX.out).mono ?_); rintro e w1 ⟨rfl, hb⟩)
  go_ret
  exact ⟨rfl, hb2.trans (hb.mono hb2.size)⟩
def GetSays (l : List Fl) (n : B) (w : World) (e : Ending) (w' : World) : Prop := e = .returned (.tuple #[.string ((get l n).getD ⟨#[]⟩), .bool (get l n).isSome]) ∧ Below w.heap.size w w'
theorem get_any (A : Option Addr) (l : List Fl) (c : Nat) (s : ByteArray) (w : World) (hr : Fls w A l) (hl : l.length ≤ 1000000000) :
    Calls Tryz.prog 82 #[.slice A l.length c, .string s] w (GetSays l (tl s) w) := by
  have FA := Lib.hid (find_any A l c s w hr hl)
  rcases idx_cases (fun f : Fl => decide (tl f.p = tl s)) l with ⟨e1, e2⟩ | ⟨k, hk, e1, e2⟩
  · rw [e1] at FA
    have G : Hid (get l (tl s) = none) := Lib.hid (by unfold get; rw [e2]; rfl)
    clear e1 e2 hr
    go_enter Tryz.func82, Tryz.ntmps82
    go_wp2_with (go_at_call 137; (with_reducible refine (FA.out).mono ?_); rintro e w1 ⟨rfl, hb⟩)
    go_ret2
    unfold GetSays
    rw [G.out]
    exact ⟨rfl, hb⟩
  · rw [e1] at FA
    have G : Hid (get l (tl s) = some l[k].d) := Lib.hid (by unfold get; rw [e2]; rfl)
    have hkI : (k : Int) < (l.length : Int) := by omega
    obtain ⟨ad, rfl, had, c0, c1⟩ := Fls.at_ hr hk
    have CL : Hid (∀ W, Below w.heap.size w W → W.cell? ⟨(ad.add (k * 2)).block, (ad.add (k * 2)).off + 1, none⟩ = some (.string l[k].d)) := Lib.hid fun W hW => (hW.cell (by show (ad.add (k * 2)).block < _; rw [block_of_add]; exact had)).trans c1
    clear e1 e2 hr c0 c1
    generalize l[k] = f at *
    go_enter Tryz.func82, Tryz.ntmps82
    go_wp2_with (go_at_call 137; (with_reducible refine (FA.out).mono ?_); rintro e w1 ⟨rfl, hb⟩; have c1 := CL.out _ hb)
    go_ret2
    unfold GetSays
    rw [G.out]
    exact ⟨rfl, hb⟩
end Go.Proofs.YthkaehnhdldbbaaGreatDoor.Fs
/- FsCode, what a claim needs of it (prune.py). -/
namespace Go.Proofs.YthkaehnhdldbbaaGreatDoor.Fs
set_option linter.unusedVariables false
def rightAt (l : List En) (i : Nat) (h : i < l.length) : Prop := Lg.pathOk l[i].n = true ∧ (47 : UInt8) ∉ l[i].n ∧ l[i].g.length = 32 ∧ (0 < i → (l[i - 1]'(by omega)).n < l[i].n)
def left (r : Pk.Rd) : Nat := if r.bad = 0 then r.rest.length else 0
end Go.Proofs.YthkaehnhdldbbaaGreatDoor.Fs
namespace Go.Proofs.YthkaehnhdldbbaaGreatDoor.Fs
set_option linter.unusedVariables false
def badF (f : Fl) : Option Int := if Lg.pathOk (tl f.p) = false then some 13 else if 2048 < f.d.size then some 15 else none
def Twice (l : List Fl) : Prop := (∃ i, ∃ (h : i < l.length), 0 < i ∧ ¬ tl (l[i - 1]'(by omega)).p < tl l[i].p) ∨ ∃ i, ∃ (h : i < l.length), ∃ k, ∃ (hk : k < l.length), (belowB (tl l[i].p) (tl l[k].p)).isSome = true
noncomputable def checkE (l : List Fl) : Int :=
  match l.findSome? badF with
  | some c => c
  | none => if 32 < l.length then 15 else @ite _ (Twice l) (Classical.propDecidable _) 16 0
theorem check_first {l : List Fl} {k : Nat} {c : Int} (hk : k < l.length) (h : ∀ j (hj : j < l.length), j < k → badF l[j] = none) (h2 : badF l[k] = some c) : checkE l = c := by
  have : l.findSome? badF = some c := by
    induction l generalizing k with
    | nil => simp at hk
    | cons a l ih =>
      cases k with
      | zero => rw [List.findSome?_cons, show badF a = some c from h2]
      | succ k =>
        rw [List.findSome?_cons, show badF a = none from h 0 (by simp) (by omega)]
        exact ih (k := k) (by simpa using hk) (fun j hj hjk => h (j + 1) (by simpa using hj) (by omega)) h2
  unfold checkE
  rw [this]
theorem find_none {l : List Fl} (h : ∀ j (hj : j < l.length), j < l.length → badF l[j] = none) : l.findSome? badF = none := List.findSome?_eq_none_iff.2 fun f hf => by
  obtain ⟨j, hj, rfl⟩ := List.mem_iff_getElem.1 hf
  exact h j hj hj
theorem check_many {l : List Fl} (h : ∀ j (hj : j < l.length), j < l.length → badF l[j] = none) (h2 : 32 < l.length) : checkE l = 15 := by
  unfold checkE
  rw [find_none h]
  exact if_pos h2
theorem check_twice {l : List Fl} (h : ∀ j (hj : j < l.length), j < l.length → badF l[j] = none) (h2 : ¬ 32 < l.length) (h3 : Twice l) : checkE l = 16 := by
  unfold checkE
  rw [find_none h]
  simp only
  rw [if_neg h2, if_pos h3]
theorem check_good {l : List Fl} (h : ∀ j (hj : j < l.length), j < l.length → badF l[j] = none) (h2 : ¬ 32 < l.length) (h3 : ¬ Twice l) : checkE l = 0 := by
  unfold checkE
  rw [find_none h]
  simp only
  rw [if_neg h2, if_neg h3]
end Go.Proofs.YthkaehnhdldbbaaGreatDoor.Fs
namespace Go.Proofs.YthkaehnhdldbbaaGreatDoor.Fs
set_option linter.unusedVariables false
set_option maxRecDepth 100000
end Go.Proofs.YthkaehnhdldbbaaGreatDoor.Fs
/- FsRight, what a claim needs of it (prune.py). -/
namespace Go.Proofs.YthkaehnhdldbbaaGreatDoor.Fs
open Go.RowKit
set_option linter.unusedVariables false
set_option maxRecDepth 100000
theorem lt_op {a b : ByteArray} (h : tl a < tl b) : Op.bytesLess a.toList b.toList = true := by
  rw [Lib.toList_data, Lib.toList_data, bytesLess_eq]; exact decide_eq_true h
theorem nlt_op {a b : ByteArray} (h : ¬ tl a < tl b) : Op.bytesLess a.toList b.toList = false := by
  rw [Lib.toList_data, Lib.toList_data, bytesLess_eq]; exact decide_eq_false h
def RUpto (l : List En) (k : Nat) : Prop := ∀ j (hj : j < l.length), j < k → rightAt l j hj
theorem RUpto.next {l : List En} {k : Nat} (hk : k < l.length) (h : RUpto l k) (h1 : rightAt l k hk) : RUpto l (k + 1) := fun j hj hjk => by
  rcases Nat.lt_or_ge j k with h2 | h2
  · exact h j hj h2
  · obtain rfl : j = k := by omega
    exact h1
theorem pathE_yes {s : B} (h : Lg.pathOk s = true) : Lg.pathE s = 0 := by unfold Lg.pathE; rw [if_pos h]
theorem pathE_not {s : B} (h : Lg.pathOk s = false) : Lg.pathE s = 13 := by unfold Lg.pathE; rw [if_neg (by simp [h])]
theorem contains_any (s : ByteArray) (w : World) (b : Bool) (hb : (47 : UInt8) ∈ tl s ↔ b = true) :
    Calls Tryz.prog 151 #[.string s, .string ⟨#[47]⟩] w fun e w' => e = .returned (.bool b) ∧ Below w.heap.size w w' := by
  refine (Tryz.strings_Contains_one s 47 w).mono ?_
  rintro e w' ⟨h1, rfl⟩
  refine ⟨?_, Below.refl _ _⟩
  rw [h1, ← Lib.contains_iff_indexByte]
  have : (s.data.toList.contains 47) = b := by
    rw [Bool.eq_iff_iff, List.contains_iff_mem]; exact hb
  rw [this]
end Go.Proofs.YthkaehnhdldbbaaGreatDoor.Fs
namespace Go.Proofs.YthkaehnhdldbbaaGreatDoor.Fs
open Go.RowKit
set_option linter.unusedVariables false
set_option maxRecDepth 100000
end Go.Proofs.YthkaehnhdldbbaaGreatDoor.Fs
