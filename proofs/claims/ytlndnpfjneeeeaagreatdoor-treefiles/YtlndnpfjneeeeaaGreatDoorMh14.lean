/- Joined by mkmerged.py: FsPaths, FsLays, FsBytes. -/
import Derived.Test.YtlndnpfjneeeeaaGreatDoorMh13
import Derived.Test.YtlndnpfjneeeeaaGreatDoorMh10
import Derived.Shelf.Sort.Plain
import Derived.Shelf.Slices.In.SortNone2
import Derived.Sort.OwnSorted
import Derived.Test.YtlndnpfjneeeeaaGreatDoorProg
import Derived.Test.YtlndnpfjneeeeaaGreatDoorMh09
import Derived.Test.YtlndnpfjneeeeaaGreatDoorMhKm
import Derived.Test.YtlndnpfjneeeeaaGreatDoorMh01
/- FsPaths, what a claim needs of it (prune.py). -/
namespace Go.Proofs.YtlndnpfjneeeeaaGreatDoor.Fs
open Go.RowKit
set_option linter.unusedVariables false
set_option maxRecDepth 100000
def rest (s p : B) : B := Lib.trimPrefix s (p ++ [47])
theorem below_cases (s p : B) : (Lib.hasPrefix s (p ++ [47]) = false ∧ belowB s p = none) ∨ (Lib.hasPrefix s (p ++ [47]) = true ∧ rest s p = [] ∧ belowB s p = none) ∨ (Lib.hasPrefix s (p ++ [47]) = true ∧ rest s p ≠ [] ∧ belowB s p = some (rest s p)) := by
  cases h : Lib.hasPrefix s (p ++ [47]) with
  | false =>
    refine .inl ⟨rfl, ?_⟩
    unfold belowB
    rw [if_neg]
    intro hh
    have : Lib.hasPrefix s (p ++ [47]) = true := List.isPrefixOf_iff_prefix.2 hh.1
    rw [h] at this; cases this
  | true =>
    have hp : (p ++ [47]) <+: s := List.isPrefixOf_iff_prefix.1 h
    have hr : rest s p = s.drop (p.length + 1) := by
      unfold rest Lib.trimPrefix
      rw [if_pos h]; simp
    have hl := hp.length_le
    simp only [List.length_append, List.length_singleton] at hl
    by_cases h1 : p.length + 1 < s.length
    · refine .inr (.inr ⟨rfl, ?_, ?_⟩)
      · rw [hr]
        intro e
        have := congrArg List.length e
        simp at this
        omega
      · unfold belowB
        rw [if_pos ⟨hp, h1⟩, hr]
    · refine .inr (.inl ⟨rfl, ?_, ?_⟩)
      · rw [hr]
        exact List.drop_eq_nil_of_le (by omega)
      · unfold belowB
        rw [if_neg (fun hh => h1 hh.2)]
theorem below_raw (s p : ByteArray) (hp : p.size ≤ 1000000000) (w : World) (r : B) (h : Bool) (CP : Hid (Calls Tryz.prog 237 #[.string s, .string (p ++ ⟨#[47]⟩)] w fun e w' => e = .returned (.tuple #[.string (bs r), .bool h]) ∧ w = w')) :
    Calls Tryz.prog 174 #[.string s, .string p] w fun e w' => e = .returned (.tuple #[.string (bs r), .bool (h && !r.isEmpty)]) ∧ w = w' := by
  cases h
  · go_enter Tryz.func174, Tryz.ntmps174
    go_wp2_with (go_at_call 237; ((with_reducible refine (CP.out).mono ?_); rintro e w1 ⟨rfl, rfl⟩))
    go_ret2
    exact ⟨rfl, rfl⟩
  · by_cases hr : r = []
    · subst hr
      go_enter Tryz.func174, Tryz.ntmps174
      go_wp2_with (go_at_call 237; ((with_reducible refine (CP.out).mono ?_); rintro e w1 ⟨rfl, rfl⟩; rw [bs_nil]))
      go_ret2
      exact ⟨rfl, rfl⟩
    · have g := bs_ne hr
      have HE : Hid (r.isEmpty = false) := Lib.hid (by simpa using hr)
      clear hr
      go_enter Tryz.func174, Tryz.ntmps174
      go_wp2_with (go_at_call 237; ((with_reducible refine (CP.out).mono ?_); rintro e w1 ⟨rfl, rfl⟩))
      go_ret2
      exact ⟨by rw [HE.out]; rfl, rfl⟩
theorem cut_any (s q : ByteArray) (p : B) (e : q.data.toList = p) (w : World) :
    Calls Tryz.prog 237 #[.string s, .string q] w fun e w' => e = .returned (.tuple #[.string (bs (Lib.trimPrefix (tl s) p)), .bool (Lib.hasPrefix (tl s) p)]) ∧ w = w' := by
  subst e
  refine (Tryz.strings_CutPrefix s q w).mono ?_
  rintro e w' ⟨h1, h2⟩
  exact ⟨h1, h2.symm⟩
theorem below_any (s p : ByteArray) (hp : p.size ≤ 1000000000) (w : World) :
    Calls Tryz.prog 174 #[.string s, .string p] w fun e w' => e = .returned (.tuple #[.string (bs (rest (tl s) (tl p))), .bool (belowB (tl s) (tl p)).isSome]) ∧ w = w' := by
  have CP := Lib.hid (cut_any s (p ++ ⟨#[47]⟩) (tl p ++ [47]) (by rw [ByteArray.data_append]; simp) w)
  have h := below_raw s p hp w (rest (tl s) (tl p)) _ CP
  have e : (Lib.hasPrefix (tl s) (tl p ++ [47]) && !(rest (tl s) (tl p)).isEmpty) = (belowB (tl s) (tl p)).isSome := by
    rcases below_cases (tl s) (tl p) with ⟨h1, h2⟩ | ⟨h1, h2, h3⟩ | ⟨h1, h2, h3⟩
    · rw [h1, h2]; rfl
    · rw [h1, h2, h3]; rfl
    · rw [h1, h3]; simpa using h2
  rw [e] at h
  exact h
def FilesSay (m : List Fl) (w : World) (e : Ending) (w' : World) : Prop := (∃ A c, e = .returned (.slice A m.length c) ∧ Fls w' A m ∧ m.length ≤ c) ∧ Below w.heap.size w w'
theorem own_fls {w w0 : World} {v : Value} {m : List Fl} {n B : Nat} (h : w.ownsRow B 75 2 v n (fc m)) (hn : m.length = n) (hb : Below w0.heap.size w0 w) : FilesSay m w0 (.returned v) w := by
  subst hn
  have hv : ∃ A c, v = .slice A m.length c ∧ m.length ≤ c := by
    rcases h.2 with ⟨rfl, h0⟩ | ⟨g, cap, cur, rfl, hB, hg, h1, _⟩
    · exact ⟨none, 0, by rw [h0], by omega⟩
    · exact ⟨_, _, rfl, h1⟩
  obtain ⟨A, c, rfl, hc⟩ := hv
  exact ⟨⟨A, c, rfl, Reads.of_own h, hc⟩, hb⟩
def FilesOwn (m : List Fl) (w : World) (e : Ending) (w' : World) : Prop := ∃ v, e = .returned v ∧ w'.ownsRow w.heap.size 75 2 v m.length (fc m) ∧ Below w.heap.size w w'
set_option maxHeartbeats 1000000 in
theorem under_own (A : Option Addr) (l : List Fl) (c : Nat) (p : ByteArray) (hp : p.size ≤ 1000000000) (w : World) (hr : Fls w A l) (hs : Small l) :
    Calls Tryz.prog 79 #[.slice A l.length c, .string p] w (FilesOwn (under l (tl p)) w) := by
  obtain ⟨z, hzi, hzs⟩ := infoF
  obtain ⟨i0, hi, hz0, hz1, hz2⟩ := Lg.info_parts hzi
  have RD : Hid (∀ W, Below w.heap.size w W → Reads W w.heap.size 2 A l.length (fc l)) := Lib.hid fun W hW => hr.below hW
  have hl := hs.len
  have HP := Lib.hid hp
  have EN : Hid (∀ W v, W.ownsRow w.heap.size 75 2 v (upto l (tl p) l.length).length (fc (upto l (tl p) l.length)) → Below w.heap.size w W → FilesOwn (under l (tl p)) w (.returned v) W) := Lib.hid fun W v h hb => by
    rw [← upto_all]
    exact ⟨_, rfl, h, hb⟩
  clear hr hs hzi hp
  generalize FilesOwn (under l (tl p)) w = Q at *
  go_enter Tryz.func79, Tryz.ntmps79
  go_wp2_with (fail)
  go_loopw [5, 12] (fun v i W => ∃ k : Nat, i = .int .i64 k ∧ k ≤ l.length ∧ W.ownsRow w.heap.size 75 2 v (upto l (tl p) k).length (fc (upto l (tl p) k)) ∧ Below w.heap.size w W) (fun _ i _ => l.length - (intOf i).toNat)
  case atStart => exact ⟨0, rfl, by omega, World.ownsRow_nil _ _ _ _, Below.refl _ _⟩
  case round =>
    obtain ⟨k, rfl, hk, hown, hb⟩ := hrel
    have HO := Lib.hid hown
    clear hown
    by_cases hlt : k < l.length
    · have hkI : (k : Int) < (l.length : Int) := by omega
      obtain ⟨ad, rfl, had, c0, c1⟩ := Fls.at_ (RD.out _ hb) hlt
      have hul := upto_len l (tl p) k
      have HIT := Lib.hid (fun r => upto_hit (p := tl p) (r := r) hlt)
      have MISS := Lib.hid (upto_miss (p := tl p) hlt)
      generalize upto l (tl p) k = u at *
      generalize l[k] = f at *
      have BL : Hid (∀ W, Calls Tryz.prog 174 #[.string f.p, .string p] W fun e w' => e = .returned (.tuple #[.string (bs (rest (tl f.p) (tl p))), .bool (belowB (tl f.p) (tl p)).isSome]) ∧ W = w') := Lib.hid fun W => below_any f.p p HP.out W
      have hbc := below_cases (tl f.p) (tl p)
      have q0 := heap_alloc_new wr (.cells #[.string f.p, .string f.d] 75)
      rcases (show (belowB (tl f.p) (tl p) = none) ∨ belowB (tl f.p) (tl p) = some (rest (tl f.p) (tl p)) by rcases hbc with ⟨_, h⟩ | ⟨_, _, h⟩ | ⟨_, _, h⟩ <;> simp [h]) with h | h
      · rw [h, Option.isSome_none] at BL
        have F := Lib.hid (MISS.out h)
        clear hbc h HIT MISS
        go_wp2_with (go_at_call 174; ((with_reducible refine (BL.out _).mono ?_); rintro e w1 ⟨rfl, rfl⟩))
        go_roundw
        case rel => exact ⟨k + 1, by go_num, by omega, by rw [F.out]; exact HO.out.alloc _, hb.alloc hb.size _⟩
        case measure => simp [intOf]; omega
      · rw [h, Option.isSome_some] at BL
        have F := Lib.hid (HIT.out _ h)
        clear hbc h HIT MISS
        generalize rest (tl f.p) (tl p) = r at *
        go_wp2_with (first
          | (go_at_call 174; ((with_reducible refine (BL.out _).mono ?_); rintro e w1 ⟨rfl, rfl⟩))
          | (at_builtin; refine wpList_append_any _ rfl (.tmp 24) (.tmp 29) _ rfl w.heap.size 75 i0 _ 2 32 Tryz.underlying25 hi hz0 hz1 hz2 hzs (by omega) _ u.length _ rfl ((HO.out.alloc _).alloc _) _ (some ⟨wr.heap.size + 1, 0, none⟩) 1 1 [.string (bs r), .string f.d] rfl (by first | exact reads2_new _ _ _ _ _ | skip) (fc_cell [⟨bs r, f.d⟩]) (by simp only [maxLen]; omega) (by omega) ((hb.alloc hb.size _).alloc (by simp; have := hb.size; omega) _).size ?_; intro v' w2 hown2 hg2 hat2))
        go_roundw
        case rel =>
          refine ⟨k + 1, by go_num, by omega, ?_, ((hb.alloc hb.size _).alloc (by simp; have := hb.size; omega) _).grown hg2 ?_ ?_⟩
          · rw [F.out, fc_append, List.length_append]; exact hown2
          · simp; have := hb.size; omega
          · intro g hg
            have := hb.size
            exact (HO.out.lt g hg).1
        case measure => simp [intOf]; omega
    · obtain rfl : k = l.length := by omega
      go_wp2_with (fail)
      exact EN.out _ _ HO.out hb
theorem under_any (A : Option Addr) (l : List Fl) (c : Nat) (p : ByteArray) (hp : p.size ≤ 1000000000) (w : World) (hr : Fls w A l) (hs : Small l) :
    Calls Tryz.prog 79 #[.slice A l.length c, .string p] w (FilesSay (under l (tl p)) w) := by
  refine (under_own A l c p hp w hr hs).mono ?_
  rintro e w' ⟨v, rfl, ho, hb⟩
  exact own_fls ho rfl hb
theorem find1_any (a b s : ByteArray) (B : Nat) (W : World) (hB : B < W.heap.size) (hc : W.cell? ⟨B, 0, none⟩ = some (.string s)) :
    Calls Tryz.prog 250 #[.agg #[.string a, .string b], .pointer (some ⟨B, 0, none⟩)] W fun e w' => e = .returned (.bool (decide (tl a = tl s))) ∧ Below W.heap.size W w' := by
  have hne : B ≠ W.heap.size := by omega
  by_cases h : a = s
  · have F : Hid (decide (tl a = tl s) = true) := Lib.hid (decide_eq_true (by rw [h]))
    subst h
    go_enter Tryz.func250, Tryz.ntmps250
    go_wp2_with (fail)
    go_ret
    exact ⟨Lg.ret_bool F.out, (Below.refl _ _).alloc (Nat.le_refl _) _⟩
  · have F : Hid (decide (tl a = tl s) = false) := Lib.hid (decide_eq_false fun e => h (Lg.tl_inj e))
    have g := Lg.s_ne h
    clear h
    go_enter Tryz.func250, Tryz.ntmps250
    go_wp2_with (fail)
    go_ret
    exact ⟨Lg.ret_bool F.out, (Below.refl _ _).alloc (Nat.le_refl _) _⟩
theorem find_any (A : Option Addr) (l : List Fl) (c : Nat) (s : ByteArray) (w : World) (hr : Fls w A l) (hl : l.length ≤ 1000000000) :
    Calls Tryz.prog 178 #[.slice A l.length c, .string s] w fun e w' => e = .returned (.int .i64 (idx (fun f : Fl => decide (tl f.p = tl s)) l)) ∧ Below w.heap.size w w' := by
  obtain ⟨W2, eW⟩ : ∃ W2, W2 = w.alloc (.cells #[.string s] 9) := ⟨_, rfl⟩
  have hb2 : Below w.heap.size w W2 := by rw [eW]; exact (Below.refl _ _).alloc (Nat.le_refl _) _
  have hsz : W2.heap.size = w.heap.size + 1 := by rw [eW]; simp
  have k0 : W2.heap[w.heap.size]? = some (.cells #[.string s] 9 (0, 0)) := by rw [eW]; exact heap_alloc_new w _
  have IX := Lib.hid (indexF_any 250 #[.pointer (some ⟨w.heap.size, 0, none⟩)] (enters_of Tryz.func250 (by kernel_rfl) rfl) (fun f => decide (tl f.p = tl s)) A l c W2 ((hr.below hb2).more hb2.size) hl
    (fun f hf V hV => find1_any _ _ _ _ V (by have := hV.size; omega) ((hV.cell (p := ⟨w.heap.size, 0, none⟩) (by show w.heap.size < _; omega)).trans (Lg.cell_at k0 0))))
  clear k0 hsz hr
  generalize idx (fun f : Fl => decide (tl f.p = tl s)) l = r at *
  go_enter Tryz.func178, Tryz.ntmps178
  go_wp2_with (go_at_call 191; rw [← eW]; (with_reducible refine (IX.out).mono ?_); rintro e w1 ⟨rfl, hb⟩)
  go_ret
  exact ⟨rfl, hb2.trans (hb.mono hb2.size)⟩
def GetSays (l : List Fl) (n : B) (w : World) (e : Ending) (w' : World) : Prop := e = .returned (.tuple #[.string ((get l n).getD ⟨#[]⟩), .bool (get l n).isSome]) ∧ Below w.heap.size w w'
theorem get_any (A : Option Addr) (l : List Fl) (c : Nat) (s : ByteArray) (w : World) (hr : Fls w A l) (hl : l.length ≤ 1000000000) :
    Calls Tryz.prog 83 #[.slice A l.length c, .string s] w (GetSays l (tl s) w) := by
  have FA := Lib.hid (find_any A l c s w hr hl)
  rcases idx_cases (fun f : Fl => decide (tl f.p = tl s)) l with ⟨e1, e2⟩ | ⟨k, hk, e1, e2⟩
  · rw [e1] at FA
    have G : Hid (get l (tl s) = none) := Lib.hid (by unfold get; rw [e2]; rfl)
    clear e1 e2 hr
    go_enter Tryz.func83, Tryz.ntmps83
    go_wp2_with (go_at_call 178; (with_reducible refine (FA.out).mono ?_); rintro e w1 ⟨rfl, hb⟩)
    go_ret2
    unfold GetSays
    rw [G.out]
    exact ⟨rfl, hb⟩
  · rw [e1] at FA
    have G : Hid (get l (tl s) = some l[k].d) := Lib.hid (by unfold get; rw [e2]; rfl)
    have hkI : (k : Int) < (l.length : Int) := by omega
    obtain ⟨ad, rfl, had, c0, c1⟩ := Fls.at_ hr hk
    have CL : Hid (∀ W, Below w.heap.size w W → W.cell? ⟨(ad.add (k * 2)).block, (ad.add (k * 2)).off + 1, none⟩ = some (.string l[k].d)) := Lib.hid fun W hW => (hW.cell (by show (ad.add (k * 2)).block < _; rw [block_of_add]; exact had)).trans c1
    clear e1 e2 hr c0 c1
    generalize l[k] = f at *
    go_enter Tryz.func83, Tryz.ntmps83
    go_wp2_with (go_at_call 178; (with_reducible refine (FA.out).mono ?_); rintro e w1 ⟨rfl, hb⟩; have c1 := CL.out _ hb)
    go_ret2
    unfold GetSays
    rw [G.out]
    exact ⟨rfl, hb⟩
end Go.Proofs.YtlndnpfjneeeeaaGreatDoor.Fs
/- FsLays, what a claim needs of it (prune.py). -/
namespace Go.Proofs
open Go.Shelf
def Tryz.l81_ren : Go.Shelf.Ren := ⟨fun | 190 => 81 | 125 => 177 | 258 => 176 | 128 => 248 | 129 => 249 | 302 => 239 | 303 => 240 | 304 => 241 | 305 => 242 | 306 => 243 | 307 => 244 | 308 => 245 | 309 => 246 | 310 => 247 | 333 => 288 | 329 => 289 | 330 => 290 | 334 => 291 | 335 => 292 | 336 => 96 | 344 => 317 | n => n, fun | 31 => 22 | 9 => 9 | 3 => 3 | 46 => 153 | 0 => 0 | 51 => 147 | 53 => 284 | 4 => 4 | 183 => 277 | 182 => 276 | 131 => 130 | 5 => 5 | 218 => 314 | 222 => 318 | 228 => 341 | 229 => 342 | n => n, fun | n => n⟩
theorem Tryz.l81 : Go.Proofs.Lays.n190 Tryz.prog Tryz.l81_ren := {
  mixed := by kernel_rfl
  f125 := Tryz.func177.trans (congrArg some (by kernel_rfl))
  f128 := Tryz.func248.trans (congrArg some (by kernel_rfl))
  f129 := Tryz.func249.trans (congrArg some (by kernel_rfl))
  f190 := Tryz.func81.trans (congrArg some (by kernel_rfl))
  f258 := Tryz.func176.trans (congrArg some (by kernel_rfl))
  f302 := Tryz.func239.trans (congrArg some (by kernel_rfl))
  f303 := Tryz.func240.trans (congrArg some (by kernel_rfl))
  f304 := Tryz.func241.trans (congrArg some (by kernel_rfl))
  f305 := Tryz.func242.trans (congrArg some (by kernel_rfl))
  f306 := Tryz.func243.trans (congrArg some (by kernel_rfl))
  f307 := Tryz.func244.trans (congrArg some (by kernel_rfl))
  f308 := Tryz.func245.trans (congrArg some (by kernel_rfl))
  f309 := Tryz.func246.trans (congrArg some (by kernel_rfl))
  f310 := Tryz.func247.trans (congrArg some (by kernel_rfl))
  f329 := Tryz.func289.trans (congrArg some (by kernel_rfl))
  f330 := Tryz.func290.trans (congrArg some (by kernel_rfl))
  f333 := Tryz.func288.trans (congrArg some (by kernel_rfl))
  f334 := Tryz.func291.trans (congrArg some (by kernel_rfl))
  f335 := Tryz.func292.trans (congrArg some (by kernel_rfl))
  f336 := Tryz.func96.trans (congrArg some (by kernel_rfl))
  f344 := Tryz.func317.trans (congrArg some (by kernel_rfl))
  t0 := Tryz.underlying0
  a0 := Tryz.isAgg0
  z0 := Tryz.sizeOf0
  v0 := Tryz.zeroValue0
  t3 := Tryz.underlying3
  a3 := Tryz.isAgg3
  z3 := Tryz.sizeOf3
  v3 := Tryz.zeroValue3
  t4 := Tryz.underlying4
  a4 := Tryz.isAgg4
  z4 := Tryz.sizeOf4
  v4 := Tryz.zeroValue4
  t5 := Tryz.underlying5
  a5 := Tryz.isAgg5
  z5 := Tryz.sizeOf5
  v5 := Tryz.zeroValue5
  t9 := Tryz.underlying9
  a9 := Tryz.isAgg9
  z9 := Tryz.sizeOf9
  v9 := Tryz.zeroValue9
  t31 := Tryz.underlying22
  a31 := Tryz.isAgg22
  z31 := Tryz.sizeOf22
  v31 := Tryz.zeroValue22
  t46 := Tryz.underlying153
  a46 := Tryz.isAgg153
  z46 := Tryz.sizeOf153
  v46 := Tryz.zeroValue153
  t51 := Tryz.underlying147
  a51 := Tryz.isAgg147
  z51 := Tryz.sizeOf147
  v51 := Tryz.zeroValue147
  t53 := Tryz.underlying284
  a53 := Tryz.isAgg284
  z53 := Tryz.sizeOf284
  v53 := Tryz.zeroValue284
  t131 := Tryz.underlying130
  a131 := Tryz.isAgg130
  z131 := Tryz.sizeOf130
  v131 := Tryz.zeroValue130
  t182 := Tryz.underlying276
  a182 := Tryz.isAgg276
  z182 := Tryz.sizeOf276
  v182 := Tryz.zeroValue276
  t183 := Tryz.underlying277
  a183 := Tryz.isAgg277
  z183 := Tryz.sizeOf277
  v183 := Tryz.zeroValue277
  t218 := Tryz.underlying314
  a218 := Tryz.isAgg314
  z218 := Tryz.sizeOf314
  v218 := Tryz.zeroValue314
  t222 := Tryz.underlying318
  a222 := Tryz.isAgg318
  z222 := Tryz.sizeOf318
  v222 := Tryz.zeroValue318
  t228 := Tryz.underlying341
  a228 := Tryz.isAgg341
  z228 := Tryz.sizeOf341
  v228 := Tryz.zeroValue341
  t229 := Tryz.underlying342
  a229 := Tryz.isAgg342
  z229 := Tryz.sizeOf342
  v229 := Tryz.zeroValue342 }
end Go.Proofs
/- FsBytes, what a claim needs of it (prune.py). -/
namespace Go.Proofs.YtlndnpfjneeeeaaGreatDoor.Fs
open Go.RowKit
set_option linter.unusedVariables false
set_option maxRecDepth 100000
theorem strs3 {w : World} {g : Nat} {T : TypeId} {a b c : ByteArray} (h : w.heap[g]? = some (.cells #[.string a, .string b, .string c] T (0, 0))) : Strs w w.heap.size (some ⟨g, 0, none⟩) [a, b, c] :=
  ⟨rfl, fun _ => ⟨_, rfl, Lg.lt_heap h, fun j u hu => by
    rw [Lg.add_eq, Lg.cell_at h]
    simpa using hu⟩⟩
def entB (x : En) : B := Pk.list [x.n, kind x, x.g]
theorem bytesE_eq (l : List En) : bytesE l = l.flatMap entB := rfl
theorem bytes_next {l : List En} {k : Nat} (hk : k < l.length) : bytesE (l.take (k + 1)) = bytesE (l.take k) ++ entB l[k] := by
  rw [bytesE_eq, List.take_succ_eq_append_getElem hk, List.flatMap_append, bytesE_eq]; simp
theorem bytes_le {l : List En} {k : Nat} (hk : k < l.length) : (bytesE (l.take k)).length + (entB l[k]).length ≤ (bytesE l).length := by
  have h := bytes_next hk
  have h2 : (bytesE l).length = (bytesE (l.take (k + 1))).length + (bytesE (l.drop (k + 1))).length := by
    conv => lhs; rw [← List.take_append_drop (k + 1) l]
    rw [bytesE_eq, List.flatMap_append, List.length_append]; rfl
  have h3 := congrArg List.length h
  rw [List.length_append] at h3
  omega
theorem ent_le (x : En) : ([x.n, kind x, x.g].flatMap Pk.text).length ≤ (entB x).length := text_len _
theorem bytes_count : ∀ l : List En, l.length ≤ (bytesE l).length
  | [] => by simp
  | x :: l => by
    have ih := bytes_count l
    have : 0 < (entB x).length := by unfold entB Pk.list; rw [Pk.text]; simp; omega
    rw [bytesE_eq, List.flatMap_cons, List.length_append, List.length_cons]
    rw [bytesE_eq] at ih; omega
set_option maxHeartbeats 2000000 in
theorem pbytes_any (A : Option Addr) (l : List En) (c : Nat) (w : World) (ht : Tab w) (hr : Ens w A l) (hl : (bytesE l).length ≤ 100000000) :
    Calls Tryz.prog 86 #[.slice A l.length c] w fun e w' => e = .returned (.string (bs (bytesE l))) ∧ Below w.heap.size w w' := by
  have hn := bytes_count l
  have RD : Hid (∀ W, Below w.heap.size w W → Reads W w.heap.size 3 A l.length (ec l)) := Lib.hid fun W hW => hr.below hW
  have HT := Lib.hid ht
  clear hr ht
  go_enter Tryz.func86, Tryz.ntmps86
  go_wp2_with (fail)
  go_loopw [9] (fun i wx => ∃ k : Nat, i = .int .i64 k ∧ k ≤ l.length ∧ SbAt w.heap.size w.heap.size (bytesE (l.take k)) wx ∧ Below w.heap.size w wx) (fun i _ => l.length - (intOf i).toNat)
  case atStart => exact ⟨0, rfl, by omega, Lib.fresh_isBuilder _ _ w, (Below.refl _ _).alloc (Nat.le_refl _) _⟩
  case round =>
    obtain ⟨k, rfl, hk, hsb, hbx⟩ := hrel
    rename World => wx
    by_cases hlt : k < l.length
    · obtain ⟨ad, rfl, had, c0, c1, c2⟩ := Ens.at_ (RD.out _ hbx) hlt
      have hkI : (k : Int) < (l.length : Int) := by omega
      have FT := Lib.hid (bytes_next hlt)
      have FL := bytes_le hlt
      have EL := ent_le l[k]
      have hz : (bs (entB l[k])).size = (entB l[k]).length := bs_size _
      have PL : Hid (∀ W q, Below w.heap.size w W → W.heap[q]? = some (.cells #[.string (bs l[k].n), .string (bs (kind l[k])), .string (bs l[k].g)] 9 (0, 0)) →
          Calls Tryz.prog 137 #[.slice (some ⟨q, 0, none⟩) 3 3] W fun e w' => e = .returned (.string (bs (entB l[k]))) ∧ Below W.heap.size W w') :=
        Lib.hid fun W q hW hq => plist_any (some ⟨q, 0, none⟩) [bs l[k].n, bs (kind l[k]), bs l[k].g] 3 W (HT.out.on hW) (strs3 hq) (by
          show ([l[k].n, kind l[k], l[k].g].flatMap Pk.text).length ≤ _
          omega)
      generalize bytesE (l.take k) = acc at *
      generalize entB l[k] = t at *
      have hbl : acc.length + (bs t).size ≤ 140737488355328 := by omega
      clear hz EL
      have kd : (l[k].dir = true → bs (kind l[k]) = ⟨#[100]⟩) ∧ (l[k].dir = false → bs (kind l[k]) = ⟨#[102]⟩) := ⟨fun h => by unfold kind; rw [if_pos h]; rfl, fun h => by unfold kind; rw [if_neg (by simp [h])]; rfl⟩
      generalize bs (kind l[k]) = kt at *
      generalize bs l[k].n = nt at *
      generalize bs l[k].g = gt at *
      generalize l[k].dir = d at *
      have hs1 := hbx.size
      have q2 := heap_alloc2_new wx (.cells #[.string nt, .bool d, .string gt] 79) (.cells #[.string nt, .string kt, .string gt] 9)
      have b2 : Below w.heap.size w ((wx.alloc (.cells #[.string nt, .bool d, .string gt] 79)).alloc (.cells #[.string nt, .string kt, .string gt] 9)) := (hbx.alloc hbx.size _).alloc (by simp; omega) _
      have P2 := Lib.hid (PL.out _ _ b2 q2)
      have SB2 : Hid (SbAt w.heap.size w.heap.size acc ((wx.alloc (.cells #[.string nt, .bool d, .string gt] 79)).alloc (.cells #[.string nt, .string kt, .string gt] 9))) := Lib.hid (hsb.later (((Below.refl _ _).alloc (Nat.le_refl _) _).alloc (by simp) _))
      have B2 := Lib.hid b2
      clear hsb q2 b2 PL
      cases d
      all_goals
        (first | obtain rfl := kd.1 rfl | obtain rfl := kd.2 rfl)
        clear kd
        go_wp2_with (first
          | (go_at_call 137; (with_reducible refine (P2.out).mono ?_); rintro e w1 ⟨rfl, hb1⟩; have SB1 := Lib.hid (SB2.out.later hb1); have hbx1 := B2.out.trans (hb1.mono B2.out.size))
          | (go_at_call 140; ((with_reducible refine (WriteString_any w.heap.size w.heap.size acc _ _ SB1.out hbl hbx1.size).mono ?_); rintro e w2 ⟨rfl, hsb2, hb2⟩; have HS2 := Lib.hid hsb2)))
        go_roundw
        case rel => exact ⟨k + 1, by go_num, by omega, by rw [FT.out]; exact HS2.out, hbx1.trans hb2⟩
        case measure => simp [intOf]; omega
    · obtain rfl : k = l.length := by omega
      rw [List.take_length] at hsb
      have hB := hbx.size
      go_wp2_with (go_at_call 136; ((with_reducible refine (bstring_any w.heap.size w.heap.size (bytesE l) _ hsb hB).mono ?_); rintro e w1 ⟨rfl, hb1⟩))
      go_ret
      exact ⟨rfl, hbx.trans hb1⟩
end Go.Proofs.YtlndnpfjneeeeaaGreatDoor.Fs
namespace Go.Proofs.YtlndnpfjneeeeaaGreatDoor.Fs
open Go.RowKit
set_option linter.unusedVariables false
set_option maxRecDepth 100000
set_option maxHeartbeats 2000000 in
theorem rbytes_any (A : Option Addr) (l : List En) (c : Nat) (w : World) (hr : Ens w A l) (hl : (bytesE l).length ≤ 100000000) :
    Calls Tryz.prog 194 #[.slice A l.length c] w fun e w' => e = .returned (.string (bs (bytesE l))) ∧ Below w.heap.size w w' := by
  have hn := bytes_count l
  have RD : Hid (∀ W, Below w.heap.size w W → Reads W w.heap.size 3 A l.length (ec l)) := Lib.hid fun W hW => hr.below hW
  clear hr
  go_enter Tryz.func194, Tryz.ntmps194
  go_wp2_with (fail)
  go_loopw [3, 4] (fun v i wx => ∃ k : Nat, i = .int .i64 k ∧ k ≤ l.length ∧ wx.ownsRow w.heap.size 5 1 v (bytesE (l.take k)).length (Lib.byteCells (bytesE (l.take k))) ∧ Below w.heap.size w wx) (fun _ i _ => l.length - (intOf i).toNat)
  case atStart => exact ⟨0, rfl, by omega, World.ownsRow_nil _ _ _ _, Below.refl _ _⟩
  case round =>
    obtain ⟨k, rfl, hk, hown, hbx⟩ := hrel
    rename World => wx
    have HO := Lib.hid hown
    clear hown
    by_cases hlt : k < l.length
    · obtain ⟨ad, rfl, had, c0, c1, c2⟩ := Ens.at_ (RD.out _ hbx) hlt
      have hkI : (k : Int) < (l.length : Int) := by omega
      have FT := Lib.hid (bytes_next hlt)
      have FL := bytes_le hlt
      have EL := ent_le l[k]
      have hz : (bs (entB l[k])).size = (entB l[k]).length := bs_size _
      have PL : Hid (∀ W q, W.heap[q]? = some (.cells #[.string (bs l[k].n), .string (bs (kind l[k])), .string (bs l[k].g)] 9 (0, 0)) →
          Calls Tryz.prog 171 #[.slice (some ⟨q, 0, none⟩) 3 3] W fun e w' => e = .returned (.string (bs (entB l[k]))) ∧ Below W.heap.size W w') :=
        Lib.hid fun W q hq => reflist_any (some ⟨q, 0, none⟩) [bs l[k].n, bs (kind l[k]), bs l[k].g] 3 W (strs3 hq) (by
          show ([l[k].n, kind l[k], l[k].g].flatMap Pk.text).length ≤ _
          omega)
      generalize bytesE (l.take k) = acc at *
      have TS : Hid (tl (bs (entB l[k])) = entB l[k]) := Lib.hid rfl
      generalize entB l[k] = t at *
      have hbl : acc.length + (bs t).size ≤ 140737488355328 := by omega
      have HZ := Lib.hid hz
      clear hz EL
      have kd : (l[k].dir = true → bs (kind l[k]) = ⟨#[100]⟩) ∧ (l[k].dir = false → bs (kind l[k]) = ⟨#[102]⟩) := ⟨fun h => by unfold kind; rw [if_pos h]; rfl, fun h => by unfold kind; rw [if_neg (by simp [h])]; rfl⟩
      generalize bs (kind l[k]) = kt at *
      generalize bs l[k].n = nt at *
      generalize bs l[k].g = gt at *
      generalize l[k].dir = d at *
      have hs1 := hbx.size
      cases d
      all_goals
        (first | obtain rfl := kd.1 rfl | obtain rfl := kd.2 rfl)
        clear kd
        go_wp2_with (fail)
        refine wp_region_mix (C := fun w' => ∃ n, w' = wx.drewN n) 12 (by kernel_rfl) (by kernel_rfl) (fun _ _ d _ _ h => by cases d <;> exact h) ⟨1, rfl⟩ ?_
        simp only [List.take_succ_cons, List.take_zero, List.drop_succ_cons, List.drop_zero]
        repeat (quiet_step (first | (intro _; rfl) | (rintro ⟨n, rfl⟩; first | (rw [show ∀ a, (wx.drewN n).cell? a = wx.cell? a from fun _ => rfl, c0]; exact ⟨rfl, rfl⟩) | (rw [show ∀ a, (wx.drewN n).cell? a = wx.cell? a from fun _ => rfl, c2]; exact ⟨rfl, rfl⟩))))
        refine wpQuiet_nil ?_
        rintro _ ⟨n0, rfl⟩
        have b1 : ∀ o, Below wx.heap.size wx ((wx.drewN n0).alloc o) := fun o => (belowDN (Below.refl _ _) n0).alloc (Nat.le_refl _) o
        have q1 : ∀ a b c : Value, ((wx.drewN n0).alloc (.cells #[a, b, c] 9)).heap[wx.heap.size]? = some (.cells #[a, b, c] 9 (0, 0)) := fun a b c => heap_alloc_new (wx.drewN n0) _
        have P1 := Lib.hid (PL.out _ _ (q1 _ _ _))
        have B1 := Lib.hid b1
        clear b1 q1 PL
        go_wp2_with (first
          | (go_at_call 171; (with_reducible refine (P1.out).mono ?_); rintro e w1 ⟨rfl, hb1⟩; have hx1 := (B1.out _).trans (hb1.mono (B1.out _).size); have hown1 := own_later HO.out hx1; have hbx1 := hbx.trans (hx1.mono hbx.size); have hB := hbx1.size)
          | (at_builtin; refine append_text rfl (.tmp 17) (.tmp 30) 71 9 rfl w.heap.size 5 Tryz.underlying71 Tryz.underlying9 (by kernel_rfl) _ acc.length acc rfl hown1 (bs t) rfl hbl hB hbx1 ?_; intro v' w2 hown2 hb2 _))
        go_roundw
        case rel =>
          refine ⟨k + 1, by go_num, by omega, ?_, hb2⟩
          rw [FT.out, List.length_append, ← HZ.out]
          rw [show (bs t).data.toList = t from rfl] at hown2
          exact hown2
        case measure => simp [intOf]; omega
    · obtain rfl : k = l.length := by omega
      rw [List.take_length] at HO
      have hcv : (convert 71 9 _).run Tryz.prog _ = .ok (.string (bs (bytesE l))) _ := conv_own (P := Tryz.prog) Tryz.underlying71 Tryz.underlying5 Tryz.underlying9 HO.out
      go_wp2_with (fail)
      go_ret
      exact ⟨rfl, hbx⟩
end Go.Proofs.YtlndnpfjneeeeaaGreatDoor.Fs
namespace Go.Proofs.YtlndnpfjneeeeaaGreatDoor.Fs
open Go.RowKit Go.Sort
set_option linter.unusedVariables false
set_option maxRecDepth 100000
def tv (b : B) : Value := .string (bs b)
theorem sort_any (v : Value) (n B0 : Nat) (l : List B) (w : World) (hown : w.ownsRow B0 9 1 v n (l.map tv)) (hn : l.length = n) (hl : l.length ≤ 1000000) :
    Calls Tryz.prog 81 #[v] w fun e w' => e = .returned (.tuple #[]) ∧ w'.ownsRow B0 9 1 v n ((l.mergeSort fun x y => decide (x ≤ y)).map tv) ∧ w.grownBy w' v.ownBlock := by
  subst hn
  rcases hown.2 with ⟨rfl, h0⟩ | ⟨g, cap, cur, rfl, hB, hg, h1, h2, h3, h4⟩
  · have : l = [] := List.eq_nil_of_length_eq_zero h0
    subst this
    refine (Any.slices_Sort_string_none Tryz.l81 none 0 w).mono ?_
    rintro e w' ⟨h5, rfl⟩
    exact ⟨h5, by simpa using World.ownsRow_nil _ _ _ _, World.grownBy.refl _ _⟩
  · have hH := holds_gen (enc := encStr) (is := l) hg (by rw [Nat.mul_one] at h4; exact h4)
    have hlt : g < w.heap.size := (Array.getElem?_eq_some_iff.1 hg).1
    refine (Any.slices_Sort_string Tryz.l81 g 0 cap l w hH hlt (by omega)).mono ?_
    rintro e w' ⟨h5, m, os, rfl⟩
    have hp : (l.mergeSort fun x y => decide (x ≤ y)).length = l.length := (List.mergeSort_perm l _).length_eq
    refine ⟨h5, ?_, grown_gen encStr _⟩
    have := owns_gen (n := m) (os := os) encStr (ts := l.mergeSort fun x y => decide (x ≤ y)) hB hg (by rw [hp]; exact h1) h2 h3
    rw [hp] at this
    exact this
def CompactSays (v : Value) (m : List B) (w : World) (e : Ending) (w' : World) : Prop := ∃ A c, e = .returned (.slice A m.length c) ∧ Reads w' w'.heap.size 1 A m.length (m.map tv) ∧ w.grownBy w' v.ownBlock
theorem compact_any (v : Value) (n B0 : Nat) (l : List B) (w : World) (hown : w.ownsRow B0 9 1 v n (l.map tv)) (hn : l.length = n) (hl : l.length ≤ 1000000) :
    Calls Tryz.prog 82 #[v] w (CompactSays v (Lib.compact l) w) := by
  subst hn
  rcases hown.2 with ⟨rfl, h0⟩ | ⟨g, cap, cur, rfl, hB, hg, h1, h2, h3, h4⟩
  · have : l = [] := List.eq_nil_of_length_eq_zero h0
    subst this
    refine (Tryz.slices_Compact_string_empty none 0 w).mono ?_
    rintro e w' ⟨h5, rfl⟩
    exact ⟨none, 0, h5, Reads.none_, World.grownBy.refl _ _⟩
  · have hH := holds_gen (enc := encStr) (is := l) hg (by rw [Nat.mul_one] at h4; exact h4)
    refine (Tryz.slices_Compact_string g 0 cap l w hH (by omega) h1).mono ?_
    rintro e w' ⟨h5, q, rfl⟩
    have hle := Lib.compact_length_le l
    have hlen : (Lib.compact l ++ List.replicate (l.length - (Lib.compact l).length) ([] : B)).length = l.length := by simp; omega
    have eg : ∀ W : World, grow W #[] = W := fun W => by simp [grow]
    have ow := owns_gen (n := q) (os := #[]) encStr (ts := Lib.compact l ++ List.replicate (l.length - (Lib.compact l).length) ([] : B)) hB hg (by rw [hlen]; exact h1) h2 h3
    have gr := grown_gen (w := w) (g := g) (n := q) (os := #[]) encStr (Lib.compact l ++ List.replicate (l.length - (Lib.compact l).length) ([] : B)).toArray
    rw [eg] at ow gr
    refine ⟨_, _, h5, ?_, gr⟩
    have rd := Reads.of_own ow
    refine ⟨by simp, fun hn => ?_⟩
    obtain ⟨ad, e1, h6, h7⟩ := rd.2 (by rw [hlen]; omega)
    refine ⟨ad, e1, h6, fun j u hu => h7 j u ?_⟩
    rw [List.map_append, List.getElem?_append_left (by have := (List.getElem?_eq_some_iff.1 hu).1; simpa using this)]
    exact hu
end Go.Proofs.YtlndnpfjneeeeaaGreatDoor.Fs
