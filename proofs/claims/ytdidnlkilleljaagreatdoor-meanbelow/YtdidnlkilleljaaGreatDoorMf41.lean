/- Joined by mkmerged.py: MnLaw3, MnOpen. -/
import Derived.Test.YtdidnlkilleljaaGreatDoorMf40
import Derived.Test.YtdidnlkilleljaaGreatDoorMf15
import Derived.IntWalk
import Derived.BigQuiet
import Derived.Test.YtdidnlkilleljaaGreatDoorMf19
import Derived.Test.YtdidnlkilleljaaGreatDoorMf37
import Derived.Lib.SmallJoins
/- MnLaw3, what a claim needs of it (prune.py). -/
namespace Go.Proofs.YtdidnlkilleljaaGreatDoor.Mn
open Go.RowKit
open Fs (B checkE fc fc_len fc_cell fc_append infoF reads2_one)
open Gr (TRow part_row tgs_of_own infoT)
set_option linter.unusedVariables false
set_option maxRecDepth 100000
def uptoN (l : List Tg) (snap : List Fl) (i : Nat) : List Fl := (snap.take i).filter (named l)
theorem uptoN_all (l : List Tg) (snap : List Fl) : uptoN l snap snap.length = snap.filter (named l) := by unfold uptoN; rw [List.take_length]
theorem uptoN_len (l : List Tg) (snap : List Fl) (i : Nat) : (uptoN l snap i).length ≤ i := Nat.le_trans (List.length_filter_le _ _) (by simp; omega)
theorem uptoN_hit {l : List Tg} {snap : List Fl} {i : Nat} (hi : i < snap.length) (h : named l snap[i] = true) : uptoN l snap (i + 1) = uptoN l snap i ++ [snap[i]] := by
  unfold uptoN
  rw [List.take_succ_eq_append_getElem hi, List.filter_append, List.filter_cons, if_pos h, List.filter_nil]
theorem uptoN_miss {l : List Tg} {snap : List Fl} {i : Nat} (hi : i < snap.length) (h : named l snap[i] = false) : uptoN l snap (i + 1) = uptoN l snap i := by
  unfold uptoN
  rw [List.take_succ_eq_append_getElem hi, List.filter_append, List.filter_cons, if_neg (by simp [h]), List.filter_nil, List.append_nil]
def amid (ss : List ByteArray) (p : ByteArray) (m : Nat) : Bool := (ss.take m).any fun s => decide (s = p)
theorem amid_next {ss : List ByteArray} {p : ByteArray} {m : Nat} (hm : m < ss.length) : amid ss p (m + 1) = (amid ss p m || decide (ss[m] = p)) := by
  unfold amid
  rw [List.take_succ_eq_append_getElem hm, List.any_append, List.any_cons, List.any_nil, Bool.or_false]
theorem amid_all (ss : List ByteArray) (p : ByteArray) : amid ss p ss.length = ss.any fun s => decide (s = p) := by unfold amid; rw [List.take_length]
def NoT (l : List Tg) (p : ByteArray) (k : Nat) : Prop := ∀ j (hj : j < l.length), j < k → (l[j].ss.any fun s => decide (s = p)) = false
theorem NoT.next {l : List Tg} {p : ByteArray} {k : Nat} (hk : k < l.length) (h : NoT l p k) (h1 : (l[k].ss.any fun s => decide (s = p)) = false) : NoT l p (k + 1) := fun j hj hjk => by
  rcases Nat.lt_or_ge j k with h2 | h2
  · exact h j hj h2
  · obtain rfl : j = k := by omega
    exact h1
theorem NoT.all {l : List Tg} {f : Fl} (h : NoT l f.p l.length) : named l f = false := by
  unfold named
  rw [List.any_eq_false]
  intro t ht
  obtain ⟨j, hj, rfl⟩ := List.mem_iff_getElem.1 ht
  rw [h j hj hj]
  decide
theorem named_of {l : List Tg} {f : Fl} {k : Nat} (hk : k < l.length) (h : (l[k].ss.any fun s => decide (s = f.p)) = true) : named l f = true := List.any_eq_true.2 ⟨_, List.getElem_mem hk, h⟩
theorem build_at {W : World} {T F : Option Addr} {l : List Tg} {snap : List Fl} {c d : Nat} {goal : ByteArray} (hE : Lg.Env W) (hr : Gr.Tgs W T l) (hP : l.length ≤ 20 ∧ ∀ t ∈ l, t.Ok) (hlc : l.length ≤ c) (hs : Fs.Fls W F snap) (hsl : snap.length ≤ 60) (hsz : ∀ f ∈ snap, f.p.size ≤ maxLen ∧ f.d.size ≤ maxLen) (fuel : Int) :
    Calls Tryz.prog 19 #[.slice T l.length c, .slice F snap.length d, .string goal, .int .i64 fuel] W (BuildSays (buildF l snap goal fuel) W) :=
  build_any T F l snap c d goal fuel W hE hr (by have := hP.1; omega) hlc (fun t ht => ok_fits (hP.2 t ht)) hs (by omega) hsz
theorem build_len (l : List Tg) (snap : List Fl) (goal : ByteArray) (fuel : Int) : (buildF l snap goal fuel).files.length ≤ 1000000000 := by
  by_cases h1 : Gr.checkF l = 0
  case neg => rw [(build_bad (.inl h1)).2]; simp
  by_cases h2 : checkE snap = 0
  case neg => rw [(build_bad (.inr (.inl h2))).2]; simp
  by_cases h3 : 1 ≤ fuel
  case neg => rw [(build_bad (.inr (.inr (.inl (by omega))))).2]; simp
  by_cases h4 : fuel ≤ 2000
  case neg => rw [(build_bad (.inr (.inr (.inr (.inl (by omega)))))).2]; simp
  by_cases h5 : Gr.find l goal = none
  · rw [(build_bad (.inr (.inr (.inr (.inr h5))))).2]; simp
  · have := (build_fine h1 h2 h3 h4 h5).right.len
    omega
theorem mod_of {g L : Nat} (hL : 0 < L) : ∃ n : Nat, n < L ∧ (g : Int) % (L : Int) = (n : Int) ∧ n = g % L := ⟨g % L, Nat.mod_lt _ hL, by omega, rfl⟩
set_option maxHeartbeats 8000000 in
theorem below_walk (T F : Option Addr) (l : List Tg) (snap : List Fl) (c d : Nat) (goal : ByteArray) (fuel : Int) (w : World) (hC : CameM w T F l snap c d goal) :
    Calls Tryz.prog 5 #[.slice T l.length c, .slice F snap.length d, .agg #[.string goal, .int .i64 fuel]] w fun e w' => e = .returned (.bool true) ∧ Below w.heap.size w w' := by
  have CM := Lib.hid hC
  have AW := Lib.hid (fun W (hW : Below w.heap.size w W) => hC.awake hW)
  have FE := Lib.hid (fun (b : Bool) (hb : b = true ↔ F8.P8 l snap) W (hW : Below w.heap.size w W) => hC.few hW hb)
  have BU := Lib.hid (fun hP W (hW : Below w.heap.size w W) => hC.build (W := W) hP hW fuel)
  have GC := Lib.hid (fun hP W (hW : Below w.heap.size w W) => hC.gcheck (W := W) hP hW)
  have PC := Lib.hid (fun W (hW : Below w.heap.size w W) => hC.pcheck hW)
  have hgz := hC.gz
  unfold maxLen at hgz
  obtain ⟨W1, eW⟩ : ∃ W1, W1 = w.alloc (.cells #[.string goal, .int .i64 fuel] 41) := ⟨_, rfl⟩
  have hb1 : Below w.heap.size w W1 := by rw [eW]; exact (Below.refl _ _).alloc (Nat.le_refl _) _
  have q1 : W1.heap[w.heap.size]? = some (.cells #[.string goal, .int .i64 fuel] 41 (0, 0)) := by rw [eW]; exact heap_alloc_new w _
  have X1 : Hid (∀ W, Below W1.heap.size W1 W → W.cell? ⟨w.heap.size, 0, none⟩ = some (.string goal) ∧ W.cell? ⟨w.heap.size, 1, none⟩ = some (.int .i64 fuel)) := Lib.hid fun W hW => by
    have q := heap_below hW (lt_heap q1) q1
    exact ⟨(cell_heap q 0).trans rfl, (cell_heap q 1).trans rfl⟩
  have HB := Lib.hid (fun W (hW : Below W1.heap.size W1 W) => hb1.trans (hW.mono hb1.size))
  have hlt := lt_heap q1
  clear hC q1 hb1
  by_cases hP : F8.P8 l snap
  case neg =>
    have FE1 := Lib.hid (FE.out false (by simp [hP]))
    clear FE BU GC PC hP CM
    obtain ⟨x0, x1⟩ := X1.out W1 (Below.refl _ _)
    have hC : Below W1.heap.size W1 W1 := Below.refl _ _
    go_enter Tryz.func5, Tryz.ntmps5
    go_wp2_with (first
      | (go_at_call 17; rw [← eW]; clear eW; (with_reducible refine (FE1.out _ (HB.out _ (Below.refl _ _))).mono ?_); rintro e w2 ⟨rfl, rfl⟩)
      | (go_at_call 14; (with_reducible refine (AW.out _ (HB.out _ hC)).mono ?_); rintro e w9 ⟨rfl, b9⟩; have hC := hC.trans (b9.mono hC.size)))
    go_ret
    exact ⟨rfl, HB.out _ hC⟩
  have FE1 := Lib.hid (FE.out true (by simp [hP]))
  have BU1 := Lib.hid (fun W hW => BU.out hP W (HB.out W hW))
  have GC1 := Lib.hid (fun W hW => GC.out hP W (HB.out W hW))
  have PC1 := Lib.hid (fun W hW => PC.out W (HB.out W hW))
  have HP := Lib.hid hP
  have hl20 : (l.length : Int) ≤ 20 := by have := hP.1; omega
  have hl20' : l.length ≤ 20 := hP.1
  have hs60 : snap.length ≤ 60 := hP.2.2.1
  clear FE BU GC PC hP
  by_cases h100 : 100 < goal.size
  · have i1 : (100 : Int) < (goal.size : Int) := by omega
    clear BU1 GC1 PC1 CM
    obtain ⟨x0, x1⟩ := X1.out W1 (Below.refl _ _)
    have hC : Below W1.heap.size W1 W1 := Below.refl _ _
    go_enter Tryz.func5, Tryz.ntmps5
    go_wp2_with (first
      | (go_at_call 17; rw [← eW]; clear eW; (with_reducible refine (FE1.out _ (HB.out _ (Below.refl _ _))).mono ?_); rintro e w2 ⟨rfl, rfl⟩)
      | (go_at_call 14; (with_reducible refine (AW.out _ (HB.out _ hC)).mono ?_); rintro e w9 ⟨rfl, b9⟩; have hC := hC.trans (b9.mono hC.size)))
    go_ret
    exact ⟨rfl, HB.out _ hC⟩
  have i1 : ¬ (100 : Int) < (goal.size : Int) := by omega
  by_cases hck : Gr.checkF l = 0
  case neg =>
    have i2 : (Gr.checkF l != 0) = true := by simpa using hck
    have i2' : ¬ Gr.checkF l = 0 := hck
    clear BU1 PC1 CM hck
    generalize Gr.checkF l = q at *
    obtain ⟨x0, x1⟩ := X1.out W1 (Below.refl _ _)
    have hC : Below W1.heap.size W1 W1 := Below.refl _ _
    go_enter Tryz.func5, Tryz.ntmps5
    go_wp2_with (first
      | (go_at_call 17; rw [← eW]; clear eW; (with_reducible refine (FE1.out _ (HB.out _ (Below.refl _ _))).mono ?_); rintro e w2 ⟨rfl, rfl⟩)
      | (go_at_call 18; (with_reducible refine (GC1.out _ hC).mono ?_); rintro e w5 ⟨rfl, b5⟩; have hC := hC.trans (b5.mono hC.size); clear b5 x0 x1; obtain ⟨x0, x1⟩ := X1.out _ hC)
      | (go_at_call 14; (with_reducible refine (AW.out _ (HB.out _ hC)).mono ?_); rintro e w9 ⟨rfl, b9⟩; have hC := hC.trans (b9.mono hC.size)))
    go_ret
    exact ⟨rfl, HB.out _ hC⟩
  rw [hck] at GC1
  by_cases h0 : l.length = 0
  · have g0 : ((l.length : Int) == 0) = true := by rw [h0]; rfl
    clear BU1 PC1 CM h0
    obtain ⟨x0, x1⟩ := X1.out W1 (Below.refl _ _)
    have hC : Below W1.heap.size W1 W1 := Below.refl _ _
    go_enter Tryz.func5, Tryz.ntmps5
    go_wp2_with (first
      | (go_at_call 17; rw [← eW]; clear eW; (with_reducible refine (FE1.out _ (HB.out _ (Below.refl _ _))).mono ?_); rintro e w2 ⟨rfl, rfl⟩)
      | (go_at_call 18; (with_reducible refine (GC1.out _ hC).mono ?_); rintro e w5 ⟨rfl, b5⟩; have hC := hC.trans (b5.mono hC.size); clear b5 x0 x1; obtain ⟨x0, x1⟩ := X1.out _ hC)
      | (go_at_call 14; (with_reducible refine (AW.out _ (HB.out _ hC)).mono ?_); rintro e w9 ⟨rfl, b9⟩; have hC := hC.trans (b9.mono hC.size)))
    go_ret
    exact ⟨rfl, HB.out _ hC⟩
  have g0 : ((l.length : Int) == 0) = false := by rw [beq_eq_false_iff_ne]; omega
  have g1 : (1 : Int) ≤ (l.length : Int) := by omega
  obtain ⟨n, hn, en, en2⟩ := mod_of (g := goal.size) (L := l.length) (by omega)
  have en3 : (goal.size : Int).tmod (l.length : Int) = (n : Int) := by rw [Int.tmod_eq_emod_of_nonneg (by omega)]; exact en
  have g2 : (0 : Int) ≤ (goal.size : Int) := by omega
  have TURN := Lib.hid (build_turn hck n snap goal fuel)
  have NAMED := Lib.hid (fun hs => build_named (l := l) (snap := snap) hs goal fuel)
  obtain ⟨r, er⟩ : ∃ r, r = buildF l snap goal fuel := ⟨_, rfl⟩
  rw [← er] at BU1 TURN NAMED
  have SZ : Hid (r.files.length ≤ 1000000000) := Lib.hid (by rw [er]; exact build_len l snap goal fuel)
  obtain ⟨ad, rfl, hbk, hcell⟩ := CM.out.tg.at_ (by omega)
  have hlc := CM.out.tg.len
  have hcn : c ≠ n := by omega
  have hcn2 : ¬ c - n = 0 := by omega
  obtain ⟨z1, t1, r1⟩ := part_row (a' := ad.add (n * 4)) (m := l.drop n) (i := n) hbk hcell (by simp; omega) (fun k hk => by simp) rfl
  obtain ⟨z2, t2, r2⟩ := part_row (a' := ad) (m := l.take n) (i := 0) hbk hcell (by simp; omega) (fun k hk => by simp) (by rw [Nat.zero_mul, Gr.add0])
  rw [show (l.drop n).length = l.length - n by simp] at r1
  rw [show (l.take n).length = n by simp; omega] at r2
  obtain ⟨z, hzi, hzs⟩ := infoT
  obtain ⟨i0, hi, hz0, hz1, hz2⟩ := Lg.info_parts hzi
  have O1 := Lib.hid t1.one
  have O2 := Lib.hid t2.one
  have TR := Lib.hid (t1.append t2)
  have R1 := Lib.hid r1
  have R2 := Lib.hid r2
  have MP : Hid ((l.drop n ++ l.take n).length ≤ 20 ∧ ∀ t ∈ l.drop n ++ l.take n, t.Ok) := Lib.hid ⟨by simp; omega, fun t ht => HP.out.2.1 t (by
    rcases List.mem_append.1 ht with h | h
    · exact List.mem_of_mem_drop h
    · exact List.mem_of_mem_take h)⟩
  have LM : Hid (0 + (l.length - n) + n = (l.drop n ++ l.take n).length) := Lib.hid (by simp; omega)
  generalize l.drop n ++ l.take n = m at *
  clear er hzi h0 h100 hck hcell t1 t2 r1 r2 en2
  obtain ⟨x0, x1⟩ := X1.out W1 (Below.refl _ _)
  have hC : Below W1.heap.size W1 W1 := Below.refl _ _
  go_enter Tryz.func5, Tryz.ntmps5
  go_upto_region 8 with (first
    | (go_at_call 17; rw [← eW]; clear eW; (with_reducible refine (FE1.out _ (HB.out _ (Below.refl _ _))).mono ?_); rintro e w2 ⟨rfl, rfl⟩)
    | (go_at_call 18; (with_reducible refine (GC1.out _ hC).mono ?_); rintro e w5 ⟨rfl, b5⟩; have hC := hC.trans (b5.mono hC.size); clear b5 x0 x1; obtain ⟨x0, x1⟩ := X1.out _ hC)
    | (at_builtin; refine wpList_append_any _ rfl (.tmp 42) (.tmp 45) _ rfl W1.heap.size 47 i0 _ 4 80 Tryz.underlying39 hi hz0 hz1 hz2 hzs (by omega) (.slice none 0 0) 0 [] rfl (World.ownsRow_nil _ _ _ _) _ (some (ad.add (n * 4))) (l.length - n) _ z1 rfl (R1.out.below (HB.out _ hC)) O1.out (by unfold maxLen; omega) (by omega) hC.size ?_; intro v4 w4 hown4 hg4 hat4; have hC4 : Below W1.heap.size W1 w4 := hC.grown hg4 hC.size (fun k hk => by cases hk); have O4 := Lib.hid hown4)
    | (at_builtin; refine wpList_append_any _ rfl (.tmp 47) (.tmp 50) _ rfl W1.heap.size 47 i0 _ 4 80 Tryz.underlying39 hi hz0 hz1 hz2 hzs (by omega) v4 (0 + (l.length - n)) ([] ++ z1) rfl O4.out _ (some ad) n _ z2 rfl (R2.out.below (HB.out _ hC4)) O2.out (by unfold maxLen; omega) (by omega) hC4.size ?_; intro v5 w5 hown5 hg5 hat5; have hC5 : Below W1.heap.size W1 w5 := hC4.grown hg5 hC4.size (fun k hk => (O4.out.lt k hk).1); rw [LM.out, List.nil_append] at hown5; obtain ⟨A5, c5, rfl, hc5, T5⟩ := tgs_of_own hown5 (TR.out.later (HB.out _ hC5)); have T5 := Lib.hid T5; clear hown5 hg5 hat5 hg4 hat4 hown4 x0 x1; obtain ⟨x0, x1⟩ := X1.out _ hC5)
    | (go_at_call 19; (with_reducible refine (BU1.out _ hC5).mono ?_); rintro e w6 ⟨A6, c6, rfl, f6, hc6, b6⟩; have F6 := Lib.hid f6; clear f6 hc6 x0 x1))
  obtain ⟨V, eV⟩ : ∃ V, V = w6.alloc (.cells #[.int .i64 r.err, .string r.at_, .string r.text, .slice A6 r.files.length c6] 37) := ⟨_, rfl⟩
  rw [← eV]
  have b06 : Below W1.heap.size W1 w6 := hC5.trans (b6.mono hC5.size)
  have d56 : Below w5.heap.size w5 V := by rw [eV]; exact b6.alloc b6.size _
  have hV : Below W1.heap.size W1 V := by rw [eV]; exact b06.alloc b06.size _
  have d6 : Below w6.heap.size w6 V := by rw [eV]; exact (Below.refl _ _).alloc (Nat.le_refl _) _
  have q6 : V.heap[w6.heap.size]? = some (.cells #[.int .i64 r.err, .string r.at_, .string r.text, .slice A6 r.files.length c6] 37 (0, 0)) := by rw [eV]; exact heap_alloc_new w6 _
  clear eV
  have SX : Hid (∀ W, Below V.heap.size V W → (fun W => (W.cell? ⟨w.heap.size, 0, none⟩ = some (.string goal) ∧ W.cell? ⟨w.heap.size, 1, none⟩ = some (.int .i64 fuel)) ∧ W.cell? ⟨w6.heap.size, 0, none⟩ = some (.int .i64 r.err) ∧ W.cell? ⟨w6.heap.size, 1, none⟩ = some (.string r.at_) ∧ W.cell? ⟨w6.heap.size, 2, none⟩ = some (.string r.text) ∧ W.cell? ⟨w6.heap.size, 3, none⟩ = some (.slice A6 r.files.length c6)) W) := Lib.hid fun W hW => ⟨X1.out W (hV.trans (hW.mono hV.size)), four_res (heap_below hW (lt_heap q6) q6)⟩
  have HV := Lib.hid (fun W (hW : Below V.heap.size V W) => hV.trans (hW.mono hV.size))
  have FA : Hid (∀ W, Below V.heap.size V W → Fs.Fls W A6 r.files) := Lib.hid fun W hW => by
    have h1 := d6.trans (hW.mono d6.size)
    exact (F6.out.below h1).more h1.size
  have BM : Hid (∀ W, Below V.heap.size V W → Calls Tryz.prog 19 #[.slice A5 m.length c5, .slice F snap.length d, .string goal, .int .i64 fuel] W (BuildSays r W)) := Lib.hid fun W hW => by
    have h1 := HB.out _ (HV.out _ hW)
    have := build_at (goal := goal) (c := c5) (d := d) (CM.out.env.below h1) (T5.out.below (d56.trans (hW.mono d56.size))) MP.out hc5 (CM.out.files h1) hs60 CM.out.flz fuel
    rw [TURN.out] at this
    exact this
  have SM : Hid (∀ W A8 c8, Below V.heap.size V W → Fs.Fls W A8 r.files → Calls Tryz.prog 15 #[.agg #[.int .i64 r.err, .string r.at_, .string r.text, .slice A6 r.files.length c6], .agg #[.int .i64 r.err, .string r.at_, .string r.text, .slice A8 r.files.length c8]] W fun e w' => e = .returned (.bool true) ∧ Below W.heap.size W w') := Lib.hid fun W A8 c8 hW hf => by
    have := msame_any r r A6 A8 c6 c8 W SZ.out SZ.out (FA.out W hW) hf
    rw [decide_eq_true rfl] at this
    exact this
  have kS0 := SX.out V (Below.refl _ _)
  have kS1 := SX.out V.drew (Below.refl _ _).drew
  have D0 : Below V.heap.size V V.drew := (Below.refl _ _).drew
  clear F6 d6 q6 b06 b6 TURN T5 MP TR R1 R2 O1 O2
  go_region_held3 (fun W => (W.cell? ⟨w.heap.size, 0, none⟩ = some (.string goal) ∧ W.cell? ⟨w.heap.size, 1, none⟩ = some (.int .i64 fuel)) ∧ W.cell? ⟨w6.heap.size, 0, none⟩ = some (.int .i64 r.err) ∧ W.cell? ⟨w6.heap.size, 1, none⟩ = some (.string r.at_) ∧ W.cell? ⟨w6.heap.size, 2, none⟩ = some (.string r.text) ∧ W.cell? ⟨w6.heap.size, 3, none⟩ = some (.slice A6 r.files.length c6)) (first | (with_reducible exact kS0) | (with_reducible exact kS1) | (with_reducible exact SX.out _ D8) | (with_reducible exact SX.out _ D9)) (first
    | (go_at_call 19; (with_reducible refine (BM.out _ D0).mono ?_); rintro e w8 ⟨A8, c8, rfl, f8, hc8, b8⟩; have D8 : Below V.heap.size V w8 := D0.trans (b8.mono D0.size); have F8 := Lib.hid f8; clear f8 hc8 b8)
    | (go_at_call 15; (with_reducible refine (SM.out _ _ _ D8 F8.out).mono ?_); rintro e w9 ⟨rfl, b9⟩; have D9 : Below V.heap.size V w9 := D8.trans (b9.mono D8.size); clear b9))
  all_goals clear kS0 kS1 D0 D8 F8 BM
  have hC := D9
  clear D9
  obtain ⟨⟨x0, x1⟩, y0, y1, y2, y3⟩ := SX.out _ hC
  by_cases hs : checkE snap = 0
  case neg =>
    have i3 : (checkE snap != 0) = true := by simpa using hs
    have i3' : ¬ checkE snap = 0 := hs
    clear hs NAMED CM
    generalize checkE snap = q at *
    go_wp2_with (first
      | (go_at_call 20; (with_reducible refine (PC1.out _ (HV.out _ hC)).mono ?_); rintro e w10 ⟨rfl, b10⟩; have hC := hC.trans (b10.mono hC.size); clear b10 x0 x1 y0 y1 y2 y3; obtain ⟨⟨x0, x1⟩, y0, y1, y2, y3⟩ := SX.out _ hC)
      | (go_at_call 14; (with_reducible refine (AW.out _ (HB.out _ (HV.out _ hC))).mono ?_); rintro e w11 ⟨rfl, b11⟩; have hC := hC.trans (b11.mono hC.size)))
    go_ret
    exact ⟨rfl, HB.out _ (HV.out _ hC)⟩
  have NM := Lib.hid (NAMED.out hs)
  rw [hs] at PC1
  clear hs NAMED
  go_wp2_with (go_at_call 20; (with_reducible refine (PC1.out _ (HV.out _ hC)).mono ?_); rintro e w10 ⟨rfl, b10⟩; have hC := hC.trans (b10.mono hC.size); clear b10 x0 x1 y0 y1 y2 y3; obtain ⟨⟨x0, x1⟩, y0, y1, y2, y3⟩ := SX.out _ hC)
  clear x0 x1 y0 y1 y2 y3
  obtain ⟨zf, zfi, zfs⟩ := infoF
  obtain ⟨j0, hji, hj0, hj1, hj2⟩ := Lg.info_parts zfi
  clear zfi
  go_loopw [10, 11] (fun v i W => ∃ k : Nat, i = .int .i64 k ∧ k ≤ snap.length ∧ Hid (W.ownsRow V.heap.size 49 2 v (uptoN l snap k).length (fc (uptoN l snap k))) ∧ Below V.heap.size V W) (fun _ i _ => snap.length - (intOf i).toNat)
  case atStart => exact ⟨0, rfl, by omega, Lib.hid (World.ownsRow_nil _ _ _ _), hC⟩
  case round =>
    obtain ⟨k, rfl, hk, HO, hb⟩ := hrel
    by_cases hkl : k < snap.length
    · have hkI : (k : Int) < (snap.length : Int) := by omega
      obtain ⟨af, eF, haf, c0, c1⟩ := Fs.Fls.at_ (CM.out.files (HB.out _ (HV.out _ hb))) hkl
      have NN : Hid (∀ t (ht : t < l.length), (l[t].ss.any fun s => decide (s = snap[k].p)) = true → named l snap[k] = true) := Lib.hid fun t ht h => named_of ht h
      have NA := Lib.hid (@NoT.all l snap[k])
      have HIT := Lib.hid (uptoN_hit (l := l) hkl)
      have MISS := Lib.hid (uptoN_miss (l := l) hkl)
      have hul := uptoN_len l snap k
      generalize uptoN l snap k = u at *
      generalize snap[k] = f at *
      obtain ⟨wo, rfl⟩ : ∃ wo, wo = wr := ⟨_, rfl⟩
      have HBo := Lib.hid hb
      have hob := hb.size
      have dF0 : Hid (∀ W, Below wo.heap.size wo W → W.cell? (af.add (k * 2)) = some (.string f.p) ∧ W.cell? ⟨(af.add (k * 2)).block, (af.add (k * 2)).off + 1, none⟩ = some (.string f.d)) := Lib.hid fun W hW => ⟨(hW.cell (by rw [block_of_add]; exact haf)).trans c0, (hW.cell (by show (af.add (k * 2)).block < _; rw [block_of_add]; exact haf)).trans c1⟩
      clear c0 c1 hb
      subst eF
      go_wp2_with (fail)
      go_loopw [10, 12] (fun v2 q W => ∃ t : Nat, q = .int .i64 t ∧ t ≤ l.length ∧ Hid (NoT l f.p t) ∧ Hid (W.ownsRow V.heap.size 49 2 v2 u.length (fc u)) ∧ Below wo.heap.size wo W) (fun _ q _ => l.length - (intOf q).toNat)
      case atStart => exact ⟨0, rfl, by omega, Lib.hid (fun j _ h => by omega), HO, Below.refl _ _⟩
      case round =>
        obtain ⟨t, rfl, ht, NT, HO2, hb⟩ := hrel
        by_cases htl : t < l.length
        · have htI : (t : Int) < (l.length : Int) := by omega
          have NX := Lib.hid (NT.out.next htl)
          have NY := Lib.hid (NN.out t htl)
          obtain ⟨wm, rfl⟩ : ∃ wm, wm = wr := ⟨_, rfl⟩
          have h0w : Below w.heap.size w wm := HB.out _ (HV.out _ (HBo.out.trans (hb.mono hob)))
          obtain ⟨ad', e', had, hcs⟩ := (CM.out.tg.at_.below h0w) (by omega)
          obtain rfl : ad = ad' := Option.some.inj e'
          obtain ⟨Ad, cd, As, cs, _, _, _, g3, _, hst⟩ := hcs t htl
          have dT : ∀ W, Below wm.heap.size wm W → W.cell? ⟨(ad.add (t * 4)).block, (ad.add (t * 4)).off + 3, none⟩ = some (.slice As l[t].ss.length cs) := fun W hW => (hW.cell (by show (ad.add (t * 4)).block < _; rw [block_of_add]; exact had)).trans g3
          have dF : ∀ W, Below wm.heap.size wm W → W.cell? (af.add (k * 2)) = some (.string f.p) := fun W hW => (dF0.out W (hb.trans (hW.mono hb.size))).1
          have ST := Lib.hid (fun W (hW : Below wm.heap.size wm W) => hst.below hW)
          have hss : l[t].ss.length ≤ 40 := (HP.out.2.1 _ (List.getElem_mem htl)).sl
          have HBm := Lib.hid hb
          clear hcs e' g3 hst hb
          generalize l[t].ss = ss at *
          have dT0 := dT wm (Below.refl _ _)
          go_wp2_with (fail)
          clear dT0
          go_loopw [13, 14] (fun nb j W => ∃ x : Nat, j = .int .i64 x ∧ x ≤ ss.length ∧ nb = .bool (amid ss f.p x) ∧ Below wm.heap.size wm W) (fun _ j _ => ss.length - (intOf j).toNat)
          case atStart => exact ⟨0, rfl, by omega, rfl, Below.refl _ _⟩
          case round =>
            obtain ⟨x, rfl, hx, rfl, hb⟩ := hrel
            have dT1 := dT wr hb
            by_cases hxl : x < ss.length
            · have hxI : (x : Int) < (ss.length : Int) := by omega
              obtain ⟨sa, us, rfl, has, hus, cu⟩ := Reads.at_ (ST.out wr hb) hxl
              have hus' : us = .string ss[x] := by
                rw [List.getElem?_map, List.getElem?_eq_getElem hxl] at hus
                exact (Option.some.inj hus).symm
              subst hus'
              have dS : ∀ W, Below wr.heap.size wr W → W.cell? (sa.add x) = some (.string ss[x]) := fun W hW => (hW.cell (by rw [block_of_add]; exact has)).trans cu
              have dTo := dT
              have dFo := dF
              have dT : ∀ W, Below wr.heap.size wr W → W.cell? ⟨(ad.add (t * 4)).block, (ad.add (t * 4)).off + 3, none⟩ = some (.slice (some sa) ss.length cs) := fun W hW => dTo W (hb.trans (hW.mono hb.size))
              have dF : ∀ W, Below wr.heap.size wr W → W.cell? (af.add (k * 2)) = some (.string f.p) := fun W hW => dFo W (hb.trans (hW.mono hb.size))
              have AN := Lib.hid (amid_next (p := f.p) hxl)
              clear hus cu
              cases ha : amid ss f.p x with
              | true =>
                have F : Hid (amid ss f.p (x + 1) = true) := Lib.hid (by rw [AN.out, ha]; rfl)
                clear ha AN
                go_wp2_with (fail)
                refine wp_region_cls (C := fun w' => Below wr.heap.size wr w') (by kernel_rfl) (by kernel_rfl) (Below.refl _ _).drew ?_
                repeat (first | go_big_quiet_skip | quiet_step (first | (intro _; rfl) | (intro _; rw [if_neg (by omega)]; exact ⟨rfl, rfl⟩) | (intro hss; (first | rw [dT _ hss] | rw [dS _ hss] | rw [dF _ hss]); exact ⟨rfl, rfl⟩)))
                refine wpQuiet_nil ?_
                intro w2 hb2
                go_wp2_with (fail)
                go_roundw
                case rel => exact ⟨x + 1, by go_num, by omega, by rw [F.out], hb.trans (hb2.mono hb.size)⟩
                case measure => simp [intOf]; omega
              | false =>
                by_cases he : ss[x] = f.p
                · have F : Hid (amid ss f.p (x + 1) = true) := Lib.hid (by rw [AN.out, ha, decide_eq_true he]; rfl)
                  have g : (ss[x].toList == f.p.toList) = true := by rw [he]; simp
                  clear ha AN he
                  generalize ss[x] = y at *
                  go_wp2_with (fail)
                  refine wp_region_cls (C := fun w' => Below wr.heap.size wr w') (by kernel_rfl) (by kernel_rfl) (Below.refl _ _).drew ?_
                  repeat (first | go_big_quiet_skip | quiet_step (first | (intro _; rfl) | (intro _; rw [if_neg (by omega)]; exact ⟨rfl, rfl⟩) | (intro hss; (first | rw [dT _ hss] | rw [dS _ hss] | rw [dF _ hss]); exact ⟨rfl, rfl⟩)))
                  refine wpQuiet_nil ?_
                  intro w2 hb2
                  go_wp2_with (fail)
                  go_roundw
                  case rel => exact ⟨x + 1, by go_num, by omega, by rw [F.out], hb.trans (hb2.mono hb.size)⟩
                  case measure => simp [intOf]; omega
                · have F : Hid (amid ss f.p (x + 1) = false) := Lib.hid (by rw [AN.out, ha, decide_eq_false he]; rfl)
                  have g := Lg.s_ne he
                  clear ha AN he
                  generalize ss[x] = y at *
                  go_wp2_with (fail)
                  refine wp_region_cls (C := fun w' => Below wr.heap.size wr w') (by kernel_rfl) (by kernel_rfl) (Below.refl _ _).drew ?_
                  repeat (first | go_big_quiet_skip | quiet_step (first | (intro _; rfl) | (intro _; rw [if_neg (by omega)]; exact ⟨rfl, rfl⟩) | (intro hss; (first | rw [dT _ hss] | rw [dS _ hss] | rw [dF _ hss]); exact ⟨rfl, rfl⟩)))
                  refine wpQuiet_nil ?_
                  intro w2 hb2
                  go_wp2_with (fail)
                  go_roundw
                  case rel => exact ⟨x + 1, by go_num, by omega, by rw [F.out], hb.trans (hb2.mono hb.size)⟩
                  case measure => simp [intOf]; omega
            · obtain rfl : x = ss.length := by omega
              have hwo : Below wo.heap.size wo wr := HBm.out.trans (hb.mono HBm.out.size)
              cases ha : amid ss f.p ss.length with
              | true =>
                have F := Lib.hid (HIT.out (NY.out (by rw [← amid_all]; exact ha)))
                obtain ⟨e0, e1⟩ := dF0.out wr hwo
                have HW := Lib.hid (HBo.out.trans (hwo.mono hob))
                have hsv := HW.out.size
                have OW := Lib.hid (Bx.own_on HO2.out hb)
                clear ha HIT MISS NN NA NX NY
                go_wp2_with (at_builtin; refine wpList_append_any _ rfl (.tmp 113) (.tmp 118) _ rfl V.heap.size 49 j0 _ 2 32 Tryz.underlying23 hji hj0 hj1 hj2 zfs (by omega) _ u.length _ rfl (Bx.own_on OW.out ((Below.refl _ _).alloc (Nat.le_refl _) _)) _ (some ⟨wr.heap.size, 0, none⟩) 1 1 [.string f.p, .string f.d] rfl (reads2_one _ _ _ _ _ rfl) (fc_cell [f]) (by unfold maxLen; omega) (by omega) (by simp; omega) ?_; intro v' w2 hown2 hg2 hat2)
                go_roundw
                case rel =>
                  refine ⟨k + 1, by go_num, by omega, Lib.hid ?_, Below.grown (HW.out.alloc hsv _) hg2 (by simp; omega) (fun g hg => (OW.out.lt g hg).1)⟩
                  rw [F.out, fc_append, List.length_append]; exact hown2
                case measure => simp [intOf]; omega
              | false =>
                have F := Lib.hid (NX.out (by rw [← amid_all]; exact ha))
                clear ha
                go_wp2_with (fail)
                go_roundw
                case rel => exact ⟨t + 1, by go_num, by omega, F, Lib.hid (Bx.own_on HO2.out hb), hwo⟩
                case measure => simp [intOf]; omega
        · obtain rfl : t = l.length := by omega
          have F := Lib.hid (MISS.out (NA.out NT.out))
          go_wp2_with (fail)
          go_roundw
          case rel => exact ⟨k + 1, by go_num, by omega, Lib.hid (by rw [F.out]; exact HO2.out), HBo.out.trans (hb.mono hob)⟩
          case measure => simp [intOf]; omega
    · obtain rfl : k = snap.length := by omega
      have hown := HO.out
      rw [uptoN_all] at hown
      obtain ⟨⟨Af, cf, ef, hrf, hcf⟩, _⟩ := Fs.own_fls (w0 := wr) hown rfl (Below.refl _ _)
      injection ef with ef
      subst ef
      have hfl : (snap.filter (named l)).length ≤ 60 := Nat.le_trans (List.length_filter_le _ _) hs60
      have HBo := Lib.hid hb
      have BF : Hid (∀ W, Below wr.heap.size wr W → Calls Tryz.prog 19 #[.slice (some ad) l.length c, .slice Af (snap.filter (named l)).length cf, .string goal, .int .i64 fuel] W (BuildSays r W)) := Lib.hid fun W hW => by
        have h1 := HB.out _ (HV.out _ (HBo.out.trans (hW.mono HBo.out.size)))
        have := build_at (goal := goal) (c := c) (d := cf) (CM.out.env.below h1) (CM.out.tg.at_.below h1) ⟨HP.out.1, HP.out.2.1⟩ hlc ((hrf.below hW).more hW.size) hfl (fun f hf => CM.out.flz f (List.mem_filter.1 hf).1) fuel
        rw [NM.out] at this
        exact this
      have S2 := Lib.hid (fun W (hW : Below wr.heap.size wr W) => SX.out W (HBo.out.trans (hW.mono HBo.out.size)))
      have SM2 := Lib.hid (fun W A8 c8 (hW : Below wr.heap.size wr W) h => SM.out W A8 c8 (HBo.out.trans (hW.mono HBo.out.size)) h)
      have kS0 := S2.out wr (Below.refl _ _)
      have kS1 := S2.out wr.drew (Below.refl _ _).drew
      have D0 : Below wr.heap.size wr wr.drew := (Below.refl _ _).drew
      clear hown hrf hb
      generalize (snap.filter (named l)).length = nf at *
      go_wp2_with (fail)
      go_region_held3 (fun W => (W.cell? ⟨w.heap.size, 0, none⟩ = some (.string goal) ∧ W.cell? ⟨w.heap.size, 1, none⟩ = some (.int .i64 fuel)) ∧ W.cell? ⟨w6.heap.size, 0, none⟩ = some (.int .i64 r.err) ∧ W.cell? ⟨w6.heap.size, 1, none⟩ = some (.string r.at_) ∧ W.cell? ⟨w6.heap.size, 2, none⟩ = some (.string r.text) ∧ W.cell? ⟨w6.heap.size, 3, none⟩ = some (.slice A6 r.files.length c6)) (first | (with_reducible exact kS0) | (with_reducible exact kS1) | (with_reducible exact S2.out _ D8) | (with_reducible exact S2.out _ D9) | (with_reducible exact S2.out _ D7)) (first
        | (go_at_call 19; (with_reducible refine (BF.out _ D0).mono ?_); rintro e w8 ⟨A8, c8, rfl, f8, hc8, b8⟩; have D8 : Below wr.heap.size wr w8 := D0.trans (b8.mono D0.size); have F8 := Lib.hid f8; clear f8 hc8 b8)
        | (go_at_call 15; (with_reducible refine (SM2.out _ _ _ D8 F8.out).mono ?_); rintro e w9 ⟨rfl, b9⟩; have D9 : Below wr.heap.size wr w9 := D8.trans (b9.mono D8.size); clear b9)
        | (go_at_call 14; (with_reducible refine (AW.out _ (HB.out _ (HV.out _ (HBo.out.trans (D9.mono HBo.out.size))))).mono ?_); rintro e w11 ⟨rfl, b11⟩; have D7 : Below wr.heap.size wr w11 := D9.trans (b11.mono D9.size)))
      all_goals
        go_wp2_with (fail)
        go_ret
        exact ⟨rfl, HB.out _ (HV.out _ (HBo.out.trans (D7.mono HBo.out.size)))⟩
end Go.Proofs.YtdidnlkilleljaaGreatDoor.Mn
/- MnOpen, what a claim needs of it (prune.py). -/
namespace Go.Proofs.YtdidnlkilleljaaGreatDoor.Mn
open Go.ChangeShapes Go.WideShapes Go.Deep Go.RowKit Go.ChangeMaps
set_option linter.unusedVariables false
set_option maxRecDepth 100000
theorem open_result {H : Type} {enc : TypeId × Value → H} {W : World} {r : Reach} {b0 : Nat} {v : Value} {d : DataW H} {p : List MemPlace} (hv : Value.okWide Tryz.prog W r b0 37 v) (h : DataW.Trod enc Tryz.prog W 0 (fun _ => true) true 37 v d p) :
    ∃ (r : Rs) (A : Option Addr) (c : Nat), v = .agg #[.int .i64 r.err, .string r.at_, .string r.text, .slice A r.files.length c] ∧ Fs.Fls W A r.files ∧ r.files.length ≤ 9223372036854775807 := by
  obtain ⟨v0, v1, v2, v3, y0, y1, y2, y3, n, rfl, _, _, t0, t1, t2, t3⟩ := Joins.open_agg4 Tryz.underlying37 (by kernel_rfl) (by kernel_rfl) hv h
  obtain ⟨k, e0, _, _⟩ := DataW.trod_int Tryz.underlying29 t0
  obtain ⟨s1, e1, _, z1⟩ := DataW.trod_string Tryz.underlying9 t1
  obtain ⟨s2, e2, _, z2⟩ := DataW.trod_string Tryz.underlying9 t2
  obtain ⟨F, fs, c1, rfl, hF, hl, hz, hc⟩ := Fs.files_of t3
  have h0 : v0 = .int .i64 k := by injection e0
  have h1 : v1 = .string s1 := by injection e1
  have h2 : v2 = .string s2 := by injection e2
  subst h0 h1 h2
  exact ⟨⟨k, s1, s2, fs⟩, F, c1, rfl, hF, by unfold maxLen at hl; show fs.length ≤ _; omega⟩
theorem open_job {H : Type} {enc : TypeId × Value → H} {W : World} {r : Reach} {b0 : Nat} {v : Value} {d : DataW H} {p : List MemPlace} (hv : Value.okWide Tryz.prog W r b0 41 v) (h : DataW.Trod enc Tryz.prog W 0 (fun _ => true) true 41 v d p) :
    ∃ (g : ByteArray) (f : Int), v = .agg #[.string g, .int .i64 f] ∧ g.size ≤ maxLen := by
  obtain ⟨v0, v1, y0, y1, n, rfl, _, _, t0, t1⟩ := Joins.open_agg2 Tryz.underlying41 (by kernel_rfl) (by kernel_rfl) hv h
  obtain ⟨s0, e0, _, z0⟩ := DataW.trod_string Tryz.underlying9 t0
  obtain ⟨k, e1, _, _⟩ := DataW.trod_int Tryz.underlying3 t1
  have h0 : v0 = .string s0 := by injection e0
  have h1 : v1 = .int .i64 k := by injection e1
  subst h0 h1
  exact ⟨s0, k, rfl, z0⟩
end Go.Proofs.YtdidnlkilleljaaGreatDoor.Mn
