/- Joined by mkmerged.py: BxLaw8. -/
import Derived.Test.YthkaehnhdldbbaaGreatDoorMe34
import Derived.Deep.Cut
/- BxLaw8, what a claim needs of it (prune.py). -/
namespace Go.Proofs.YthkaehnhdldbbaaGreatDoor.Bx
open Go.RowKit
open Lg (BelowX Lies strV StepsAt RowAt Stp numL rightE print parse)
open Fs (fc fc_len fc_cell Fls B checkE)
set_option linter.unusedVariables false
set_option maxRecDepth 100000
theorem more_of (d : B) : ((bs d).size = 0 ∧ lacks d = 0) ∨ (0 < (bs d).size ∧ ∃ h : (bs d).size - 1 < (bs d).size, (((bs d)[(bs d).size - 1]'h).toNat = 10 ∧ lacks d = 0) ∨ (((bs d)[(bs d).size - 1]'h).toNat ≠ 10 ∧ lacks d = 1)) := by
  have hl : (bs d).size = d.length := by have h2 := Lg.tl_len (bs d); have h5 : (Lg.tl (bs d)).length = d.length := rfl; omega
  rcases Nat.eq_zero_or_pos d.length with h0 | h0
  · have : d = [] := List.length_eq_zero_iff.1 h0
    subst this
    exact .inl ⟨rfl, rfl⟩
  · have hq : (bs d).size - 1 < (bs d).size := by omega
    refine .inr ⟨by omega, hq, ?_⟩
    have e : (bs d)[(bs d).size - 1]'hq = d[d.length - 1] := by
      have : ∀ (i j : Nat) (hi : i < (bs d).size) (hj : j < d.length), i = j → (bs d)[i]'hi = d[j]'hj := fun i j hi hj h => by subst h; rfl
      exact this ((bs d).size - 1) (d.length - 1) hq (by omega) (by omega)
    have hne : d ≠ [] := fun h => by subst h; simp at h0
    have e2 : d.getLast? = some (d[d.length - 1]'(by omega)) := by rw [List.getLast?_eq_getElem?]; exact List.getElem?_eq_getElem (by omega)
    rw [e]
    unfold lacks
    rw [e2]
    by_cases h : d[d.length - 1]'(by omega) = 10
    · left; exact ⟨(congrArg UInt8.toNat h).trans rfl, if_neg (fun hx => hx.2 (congrArg some h))⟩
    · right
      refine ⟨fun hx => h (UInt8.toNat_inj.1 hx), if_pos ⟨hne, fun hx => h (Option.some.inj hx)⟩⟩
def CntAt (V : World) (g : Nat) (f : UInt8 → Int) : Prop := ∃ cur, V.heap[g]? = some (.cells cur 40 (0, 0)) ∧ cur.size = 256 ∧ ∀ b : UInt8, cur[b.toNat]? = some (.int .i64 (f b))
theorem CntAt.cell {V : World} {g : Nat} {f : UInt8 → Int} (h : CntAt V g f) (b : UInt8) : V.cell? ⟨g, b.toNat, none⟩ = some (.int .i64 (f b)) ∧ V.frozen? ⟨g, b.toNat, none⟩ = false := by
  obtain ⟨cur, h1, h2, h3⟩ := h
  exact ⟨(cell_heap h1 _).trans (h3 b), frozen_heap h1 _⟩
theorem CntAt.put {V : World} {g : Nat} {f : UInt8 → Int} (h : CntAt V g f) (b : UInt8) (v : Int) : CntAt (V.setCell ⟨g, b.toNat, none⟩ (.int .i64 v)) g (fun c => if c = b then v else f c) := by
  obtain ⟨cur, h1, h2, h3⟩ := h
  have hb : b.toNat < 256 := b.toNat_lt
  refine ⟨cur.setIfInBounds b.toNat (.int .i64 v), heap_set h1, by simpa using h2, fun c => ?_⟩
  by_cases e : c = b
  · subst e
    rw [Array.getElem?_setIfInBounds_self_of_lt (by omega)]
    exact congrArg (fun x => some (Value.int .i64 x)) (if_pos rfl).symm
  · rw [Array.getElem?_setIfInBounds_ne (fun h => e (UInt8.toNat_inj.1 h.symm)), h3 c]
    exact congrArg (fun x => some (Value.int .i64 x)) (if_neg e).symm
theorem CntAt.congr {V : World} {g : Nat} {f f' : UInt8 → Int} (h : CntAt V g f) (hf : ∀ c, f c = f' c) : CntAt V g f' := by
  obtain ⟨cur, h1, h2, h3⟩ := h
  exact ⟨cur, h1, h2, fun b => by rw [h3 b, hf b]⟩
theorem zero256 : Tryz.zeroCells40 = Array.replicate 256 (.int .i64 0) := by kernel_rfl
theorem CntAt.made (w : World) : CntAt (w.alloc (.cells Tryz.zeroCells40 40)) w.heap.size (fun _ => 0) := by
  refine ⟨_, heap_alloc_new w _, by rw [zero256]; simp, fun b => ?_⟩
  have hb : b.toNat < 256 := b.toNat_lt
  rw [zero256, Array.getElem?_replicate, if_pos hb]
theorem occ_le (l : B) (k : Nat) (c : UInt8) : 0 ≤ occ l k c ∧ occ l k c ≤ k := by
  unfold occ
  have h := List.count_le_length (a := c) (l := l.take k)
  have h2 : (l.take k).length ≤ k := by rw [List.length_take]; omega
  omega
theorem occ_past {l : B} {k : Nat} (hk : l.length ≤ k) (c : UInt8) : occ l (k + 1) c = occ l k c := by
  rw [occ_end hk, occ_end (by omega)]
theorem less_no {a b : B} (h : ¬ a < b) : Op.bytesLess (bs a).toList (bs b).toList = false := by
  rw [Lib.toList_data, Lib.toList_data, bytesLess_eq]
  exact decide_eq_false h
theorem ext_line {L : List B} {j : Nat} (hj : j < L.length) {k : Nat} (hk : k + 1 = offs L (j + 1)) : (bs L.flatten).extract (offs L j) (k + 1) = bs L[j] := by
  have h := flat_line hj
  have h2 := offs_next hj
  have e : ((bs L.flatten).extract (offs L j) (k + 1)).data.toList = L[j] := by
    rw [Lib.extract_data]
    rw [show k + 1 - offs L j = L[j].length by omega]
    exact h
  have : (bs L.flatten).extract (offs L j) (k + 1) = ⟨⟨L[j]⟩⟩ := by
    rw [← e]
  exact this
theorem cnt_two {f g f' g' : UInt8 → Int} {a b : UInt8} (hf : ∀ c, f' c = f c + if a = c then 1 else 0) (hg : ∀ c, g' c = g c + if b = c then 1 else 0) {x y : Int} (hx : x = f a - g a) (hy : y = if b = a then x + 1 else f b - g b) (c : UInt8) :
    (if c = b then y - 1 else if c = a then x + 1 else f c - g c) = f' c - g' c := by
  rw [hf, hg]
  by_cases e1 : c = b
  · subst e1
    rw [if_pos rfl, if_pos rfl, hy]
    by_cases e2 : c = a
    · subst e2
      rw [if_pos rfl, if_pos rfl, hx]; omega
    · rw [if_neg e2, if_neg (fun h => e2 h.symm)]; omega
  · rw [if_neg e1, if_neg (fun h : b = c => e1 h.symm)]
    by_cases e2 : c = a
    · subst e2
      rw [if_pos rfl, if_pos rfl, hx]; omega
    · rw [if_neg e2, if_neg (fun h : a = c => e2 h.symm)]; omega
theorem cnt_one {f g f' g' : UInt8 → Int} {a : UInt8} (hf : ∀ c, f' c = f c + if a = c then 1 else 0) (hg : ∀ c, g' c = g c) {x : Int} (hx : x = f a - g a) (c : UInt8) :
    (if c = a then x + 1 else f c - g c) = f' c - g' c := by
  rw [hf, hg]
  by_cases e2 : c = a
  · subst e2
    rw [if_pos rfl, if_pos rfl, hx]; omega
  · rw [if_neg e2, if_neg (fun h : a = c => e2 h.symm)]; omega
theorem cnt_end (d : B) {n : Nat} (h1 : (soB d).length ≤ n) (h2 : d.length ≤ n) (c : UInt8) : occ (soB d) n c - occ d n c = if c = 10 then (lacks d : Int) else 0 := by
  rw [occ_end h1, occ_end h2]
  exact so_count d c
theorem nl_of {L : List B} (h : LinesL L) {t : ByteArray} (e : t = bs L.flatten) {k : Nat} (hk : k < t.size) {j : Nat} (hj : j < L.length) (h1 : offs L j ≤ k) (h2 : k < offs L (j + 1)) : (t[k]'hk).toNat = 10 ↔ k + 1 = offs L (j + 1) := by
  subst e
  have h3 := Lg.tl_len (bs L.flatten)
  have h4 : (Lg.tl (bs L.flatten)).length = L.flatten.length := rfl
  have hk2 : k < L.flatten.length := by omega
  have e2 : (bs L.flatten)[k]'hk = L.flatten[k]'hk2 := rfl
  rw [← line_nl h hj h1 h2 hk2, e2]
  exact ⟨fun h => UInt8.toNat_inj.1 h, fun h => by rw [h]; rfl⟩
set_option maxHeartbeats 8000000 in
theorem sort_walk (s : ByteArray) (hzs : s.size ≤ maxLen) (w : World) (hE : Lg.Env w) : Calls Tryz.prog 5 #[.string s] w fun e w' => e = .returned (.bool true) ∧ Below w.heap.size w w' := by
  have EV := Lib.hid (fun W (h : Below w.heap.size w W) => hE.below h)
  have AW := Lib.hid (fun W (h : Below w.heap.size w W) => awake_any W (hE.below h))
  have hA := Below.refl w.heap.size w
  by_cases hl : 2000 < s.size
  · have hI : (2000 : Int) < (s.size : Int) := by omega
    go_enter Tryz.func5, Tryz.ntmps5
    go_wp2_with (go_at_call 12; (with_reducible refine (AW.out _ hA).mono ?_); rintro e wz ⟨rfl, bz⟩)
    go_ret
    exact ⟨rfl, bz⟩
  · have hI : ¬ (2000 : Int) < (s.size : Int) := by omega
    clear hzs
    obtain ⟨d, rfl⟩ : ∃ d : B, s = bs d := ⟨Lg.tl s, rfl⟩
    have hd : d.length ≤ 2000 := by have := Lg.tl_len (bs d); have e : (Lg.tl (bs d)).length = d.length := rfl; omega
    have HD := Lib.hid hd
    go_enter Tryz.func5, Tryz.ntmps5
    go_wp2_with (fail)
    refine (one_is 5 _ 1 1 _).mono ?_
    rintro e w1 ⟨rfl, rfl⟩
    go_wp2_with (fail)
    have z1 : (w.alloc (.cells #[.string (bs outf), .string (bs d)] 37)).heap.size = w.heap.size + 1 := by simp
    have b1 : Below w.heap.size w (w.alloc (.cells #[.string (bs outf), .string (bs d)] 37)) := (Below.refl _ _).alloc (Nat.le_refl _) _
    have F1 : Fls (w.alloc (.cells #[.string (bs outf), .string (bs d)] 37)) (some ⟨w.heap.size, 0, none⟩) [⟨bs outf, bs d⟩] := fls_new w ⟨bs outf, bs d⟩
    have L1 := lies_new (w.alloc (.cells #[.string (bs outf), .string (bs d)] 37)) #[.string (bs outf)] [outf] 1 (w.heap.size + 1) z1 rfl rfl
    have S1 := step_new 5 [outf] _ 1 1 (w.heap.size + 2) _ (by simp) L1 rfl (Nat.le_refl _)
    have b2 := (b1.alloc b1.size (.cells #[.string (bs outf)] 9)).alloc (by simp <;> omega) (.cells #[.int .i64 5, .slice (some ⟨w.heap.size + 1, 0, none⟩) 1 1, .int .i64 0, .slice none 0 0] 42)
    obtain ⟨u, hu⟩ := out_sort d hd
    have R1 := Lib.hid (run_line ps1 (by decide) (check_out d (by omega)) (by decide) (by decide) hu _ 1 1 (some ⟨w.heap.size, 0, none⟩) 1 1 none 0 0 _ _ (EV.out _ b2) S1 ((F1.below (((Below.refl _ _).alloc (Nat.le_refl _) _).alloc (by simp) _)).more (by simp <;> omega)) rfl (Nat.le_refl _) Reads.none_ rfl (by decide))
    refine (R1.out).mono ?_
    rintro e w4 ⟨A4, c4, he, f4, hc4, b4⟩
    have he' : e = .returned (.agg #[.int .i64 1, .slice A4 1 c4, .string (bs []), .int .i64 0, .string (bs []), .int .i64 u]) := he
    subst he'
    clear he
    have h4 := b2.trans (b4.mono b2.size)
    have FF : Hid (∀ W, Below w4.heap.size w4 W → Fls W A4 [⟨bs [102], bs (soB d)⟩]) := Lib.hid fun W hW => (f4.below hW).more hW.size
    have F0 : Hid (∀ W, Below w4.heap.size w4 W → Fls W (some ⟨w.heap.size, 0, none⟩) [⟨bs outf, bs d⟩]) := Lib.hid fun W hW => by
      have h := (Below.refl _ _).alloc (Nat.le_refl _) (w := w.alloc (.cells #[.string (bs outf), .string (bs d)] 37)) (.cells #[.string (bs outf)] 9)
      have h2 := h.alloc (by simp) (.cells #[.int .i64 5, .slice (some ⟨w.heap.size + 1, 0, none⟩) 1 1, .int .i64 0, .slice none 0 0] 42)
      have h3 := h2.trans (b4.mono h2.size)
      have h4 := h3.trans (hW.mono h3.size)
      exact (F1.below h4).more h4.size
    have H4 := Lib.hid h4
    clear R1 S1 L1 F1 b1 b2 z1 f4 b4 hu
    go_wp2_with (fail)
    obtain ⟨W5, eW5⟩ : ∃ W5, W5 = w4.alloc (.cells #[.int .i64 1, .slice A4 1 c4, .string (bs []), .int .i64 0, .string (bs []), .int .i64 u] 31) := ⟨_, rfl⟩
    have b5 : Below w4.heap.size w4 W5 := by rw [eW5]; exact (Below.refl _ _).alloc (Nat.le_refl _) _
    have q5 : W5.heap[w4.heap.size]? = some (.cells #[.int .i64 1, .slice A4 1 c4, .string (bs []), .int .i64 0, .string (bs []), .int .i64 u] 31 (0, 0)) := by rw [eW5]; exact heap_alloc_new w4 _
    refine (one_is 5 _ 1 1 _).mono ?_
    rintro e w6 ⟨rfl, rfl⟩
    go_wp2_with (fail)
    refine (one_is 5 _ 1 1 _).mono ?_
    rintro e w7 ⟨rfl, rfl⟩
    clear hA hE
    go_wp2_with (fail)
    generalize (Question.appendCap 2 1 42).cut (w4.tape w4.drawn (Question.appendCap 2 1 42)) = cap at *
    rw [← eW5]
    have z5 : W5.heap.size = w4.heap.size + 1 := by rw [eW5]; simp
    have h5 := H4.out.trans (b5.mono H4.out.size)
    have La := lies_new W5 #[.string (bs outf)] [outf] 1 (w4.heap.size + 1) z5 rfl rfl
    have Lb := lies_new ((W5.alloc (.cells #[.string (bs outf)] 9)).alloc (.cells #[.int .i64 5, .slice (some ⟨w4.heap.size + 1, 0, none⟩) 1 1, .int .i64 0, .slice none 0 0] 42)) #[.string (bs outf)] [outf] 1 (w4.heap.size + 1 + 1 + 1) (by simp; omega) rfl rfl
    have Lc : Lies ((((W5.alloc (.cells #[.string (bs outf)] 9)).alloc (.cells #[.int .i64 5, .slice (some ⟨w4.heap.size + 1, 0, none⟩) 1 1, .int .i64 0, .slice none 0 0] 42)).alloc (.cells #[.string (bs outf)] 9)).alloc (.cells #[.int .i64 5, .slice (some ⟨w4.heap.size + 1 + 1 + 1, 0, none⟩) 1 1, .int .i64 0, .slice none 0 0] 42)) (fun _ => True) 1 (some ⟨w4.heap.size + 1, 0, none⟩) 1 (strV [outf]) := La.mono (by decide) fun b _ hs => ⟨trivial, (((Below.refl _ _).alloc (Nat.le_refl _) _).alloc (by simp) _).alloc (by simp) _ |>.block b hs⟩
    have Ld := Lb.mono (w' := (((W5.alloc (.cells #[.string (bs outf)] 9)).alloc (.cells #[.int .i64 5, .slice (some ⟨w4.heap.size + 1, 0, none⟩) 1 1, .int .i64 0, .slice none 0 0] 42)).alloc (.cells #[.string (bs outf)] 9)).alloc (.cells #[.int .i64 5, .slice (some ⟨w4.heap.size + 1 + 1 + 1, 0, none⟩) 1 1, .int .i64 0, .slice none 0 0] 42)) (ok' := fun _ => True) (by decide) fun b _ hs => ⟨trivial, Below.heap_alloc _ _ _ hs⟩
    have S2 := two_new 5 5 [outf] [outf] _ _ 1 1 1 1 (w4.heap.size + 1 + 1 + 1 + 1 + 1) (Builtin.zeroCells #[.int .i64 0, .slice none 0 0, .int .i64 0, .slice none 0 0] (cap - 2)) _ (by simp; omega) Lc rfl (Nat.le_refl _) Ld rfl (Nat.le_refl _)
    have S3 := S2.dn 1
    have b6 := ((((((h5.alloc h5.size (.cells #[.string (bs outf)] 9)).alloc (by have := h5.size; simp; omega) (.cells #[.int .i64 5, .slice (some ⟨w4.heap.size + 1, 0, none⟩) 1 1, .int .i64 0, .slice none 0 0] 42)).alloc (by have := h5.size; simp; omega) (.cells #[.string (bs outf)] 9)).alloc (by have := h5.size; simp; omega) (.cells #[.int .i64 5, .slice (some ⟨w4.heap.size + 1 + 1 + 1, 0, none⟩) 1 1, .int .i64 0, .slice none 0 0] 42)).alloc (by have := h5.size; simp; omega) (.cells (#[.int .i64 5, .slice (some ⟨w4.heap.size + 1, 0, none⟩) 1 1, .int .i64 0, .slice none 0 0] ++ (#[.int .i64 5, .slice (some ⟨w4.heap.size + 1 + 1 + 1, 0, none⟩) 1 1, .int .i64 0, .slice none 0 0] ++ Builtin.zeroCells #[.int .i64 0, .slice none 0 0, .int .i64 0, .slice none 0 0] (cap - 2))) 42))).drew
    have d6 := ((((((b5.alloc b5.size (.cells #[.string (bs outf)] 9)).alloc (by have := b5.size; simp; omega) (.cells #[.int .i64 5, .slice (some ⟨w4.heap.size + 1, 0, none⟩) 1 1, .int .i64 0, .slice none 0 0] 42)).alloc (by have := b5.size; simp; omega) (.cells #[.string (bs outf)] 9)).alloc (by have := b5.size; simp; omega) (.cells #[.int .i64 5, .slice (some ⟨w4.heap.size + 1 + 1 + 1, 0, none⟩) 1 1, .int .i64 0, .slice none 0 0] 42)).alloc (by have := b5.size; simp; omega) (.cells (#[.int .i64 5, .slice (some ⟨w4.heap.size + 1, 0, none⟩) 1 1, .int .i64 0, .slice none 0 0] ++ (#[.int .i64 5, .slice (some ⟨w4.heap.size + 1 + 1 + 1, 0, none⟩) 1 1, .int .i64 0, .slice none 0 0] ++ Builtin.zeroCells #[.int .i64 0, .slice none 0 0, .int .i64 0, .slice none 0 0] (cap - 2))) 42))).drew
    obtain ⟨u2, hu2⟩ := out_sort2 d HD.out
    have R2 := Lib.hid (run_line ps2 (by decide) (check_out d (by have := HD.out; omega)) (by decide) (by decide) hu2 _ 2 cap (some ⟨w.heap.size, 0, none⟩) 1 1 none 0 0 _ _ (EV.out _ b6) S3 ((F0.out _ d6).more (Nat.le_refl _)) rfl (Nat.le_refl _) Reads.none_ rfl (by decide))
    refine (R2.out).mono ?_
    rintro e w8 ⟨A8, c8, he, f8, hc8, b8⟩
    have he' : e = .returned (.agg #[.int .i64 1, .slice A8 1 c8, .string (bs []), .int .i64 0, .string (bs []), .int .i64 u2]) := he
    subst he'
    have D8 : Below W5.heap.size W5 w8 := by
      have h := (((((Below.refl W5.heap.size W5).alloc (Nat.le_refl _) (.cells #[.string (bs outf)] 9)).alloc (by simp) (.cells #[.int .i64 5, .slice (some ⟨w4.heap.size + 1, 0, none⟩) 1 1, .int .i64 0, .slice none 0 0] 42)).alloc (by simp; omega) (.cells #[.string (bs outf)] 9)).alloc (by simp; omega) (.cells #[.int .i64 5, .slice (some ⟨w4.heap.size + 1 + 1 + 1, 0, none⟩) 1 1, .int .i64 0, .slice none 0 0] 42)).alloc (by simp; omega) (.cells (#[.int .i64 5, .slice (some ⟨w4.heap.size + 1, 0, none⟩) 1 1, .int .i64 0, .slice none 0 0] ++ (#[.int .i64 5, .slice (some ⟨w4.heap.size + 1 + 1 + 1, 0, none⟩) 1 1, .int .i64 0, .slice none 0 0] ++ Builtin.zeroCells #[.int .i64 0, .slice none 0 0, .int .i64 0, .slice none 0 0] (cap - 2))) 42) |>.drew
      exact h.trans (b8.mono h.size)
    have b48 : Below w4.heap.size w4 w8 := b5.trans (D8.mono b5.size)
    have h8 := H4.out.trans (b48.mono H4.out.size)
    have F8 : Hid (∀ W, Below w8.heap.size w8 W → Fls W A8 [⟨bs [102], bs (soB d)⟩]) := Lib.hid fun W hW => (f8.below hW).more hW.size
    have Q5 : Hid (∀ W, Below w8.heap.size w8 W → W.cell? ⟨w4.heap.size, 0, none⟩ = some (.int .i64 1) ∧ W.cell? ⟨w4.heap.size, 1, none⟩ = some (.slice A4 1 c4)) := Lib.hid fun W hW => by
      have hb := D8.trans (hW.mono D8.size)
      have q := heap_below hb (lt_heap q5) q5
      exact ⟨(cell_heap q 0).trans rfl, (cell_heap q 1).trans rfl⟩
    have G4 : Hid (∀ W, Below w8.heap.size w8 W → Fls W A4 [⟨bs [102], bs (soB d)⟩]) := Lib.hid fun W hW => FF.out W (b48.trans (hW.mono b48.size))
    have H8 := Lib.hid h8
    clear R2 S3 S2 La Lb Lc Ld b6 d6 h5 z5 f8 b8 hu2 D8 b48 q5 b5 F0 FF h8
    obtain ⟨W9, eW9⟩ : ∃ W9, W9 = w8.alloc (.cells #[.int .i64 1, .slice A8 1 c8, .string (bs []), .int .i64 0, .string (bs []), .int .i64 u2] 31) := ⟨_, rfl⟩
    have d9 : Below w8.heap.size w8 W9 := by rw [eW9]; exact (Below.refl _ _).alloc (Nat.le_refl _) _
    have q9 : W9.heap[w8.heap.size]? = some (.cells #[.int .i64 1, .slice A8 1 c8, .string (bs []), .int .i64 0, .string (bs []), .int .i64 u2] 31 (0, 0)) := by rw [eW9]; exact heap_alloc_new w8 _
    have y0 : W9.cell? ⟨w8.heap.size, 0, none⟩ = some (.int .i64 1) := (cell_heap q9 0).trans rfl
    have y1 : W9.cell? ⟨w8.heap.size, 1, none⟩ = some (.slice A8 1 c8) := (cell_heap q9 1).trans rfl
    obtain ⟨x0, x1⟩ := Q5.out W9 d9
    have HB := Lib.hid (fun W (h : Below W9.heap.size W9 W) => (d9.trans (h.mono d9.size) : Below w8.heap.size w8 W))
    have SM : Hid (Calls Tryz.prog 16 #[.slice A4 1 c4, .slice A8 1 c8] W9 fun e w' => e = .returned (.bool true) ∧ Below W9.heap.size W9 w') := Lib.hid (by
      have := Fs.rsameF_any A4 A8 [⟨bs [102], bs (soB d)⟩] [⟨bs [102], bs (soB d)⟩] c4 c8 W9 (by simp) (by simp) (G4.out W9 d9) (F8.out W9 d9)
      rw [decide_eq_true rfl] at this
      exact this)
    obtain ⟨ad, eA, had, hc⟩ := (G4.out W9 d9).2 (by simp)
    have g1 : W9.cell? (ad.add 1) = some (.string (bs (soB d))) := hc 1 _ rfl
    have AD := Lib.hid hc
    have g2 : W9.cell? ⟨ad.block, ad.off + 1, none⟩ = some (.string (bs (soB d))) := hc 1 _ rfl
    have LC : Hid (∀ V, Below W9.heap.size W9 V → V.cell? ⟨w4.heap.size, 1, none⟩ = some (.slice A4 1 c4) ∧ V.cell? ⟨ad.block, ad.off + 1, none⟩ = some (.string (bs (soB d)))) := Lib.hid fun V hV => by
      have h1 := d9.trans (hV.mono d9.size)
      refine ⟨(Q5.out V h1).2, ?_⟩
      obtain ⟨ad', e', had', hc'⟩ := (G4.out V h1).2 (by simp)
      rw [eA] at e'
      injection e' with e'
      subst e'
      exact hc' 1 _ rfl
    have HS : Hid ((bs (soB d)).size = (bs d).size + lacks d) := Lib.hid (by have h1 := Lg.tl_len (bs (soB d)); have h2 := Lg.tl_len (bs d); have h3 := so_size d; have h4 : (Lg.tl (bs (soB d))).length = (soB d).length := rfl; have h5 : (Lg.tl (bs d)).length = d.length := rfl; omega)
    have HB9 := Lib.hid (fun V (hV : Below W9.heap.size W9 V) => H8.out.trans ((HB.out V hV).mono H8.out.size))
    subst eA
    go_upto_region 6 with (fail)
    rw [← eW9]
    clear eW9
    go_upto_region 8 with (go_at_call 16; (with_reducible refine (SM.out).mono ?_); rintro e wS ⟨rfl, bS⟩)
    obtain ⟨x1, x2⟩ := LC.out _ bS
    have hsd : (bs d).size = d.length := by have h2 := Lg.tl_len (bs d); have h5 : (Lg.tl (bs d)).length = d.length := rfl; omega
    have HD2 := Lib.hid hsd
    have hL2 : (bs d).size ≤ 2000 := by omega
    have ON : Hid (∀ k (h : k < (bs (soB d)).size) c, occ (soB d) (k + 1) c = occ (soB d) k c + if (bs (soB d))[k]'h = c then 1 else 0) := Lib.hid fun k h c => occ_next (l := soB d) (by have h3 := Lg.tl_len (bs (soB d)); have h5 : (Lg.tl (bs (soB d))).length = (soB d).length := rfl; omega) c
    have OD : Hid (∀ k (h : k < (bs d).size) c, occ d (k + 1) c = occ d k c + if (bs d)[k]'h = c then 1 else 0) := Lib.hid fun k h c => occ_next (l := d) (by omega) c
    have OP : Hid (∀ k, (bs d).size ≤ k → ∀ c, occ d (k + 1) c = occ d k c) := Lib.hid fun k h c => occ_past (by omega) c
    have MORE : Hid (((bs d).size = 0 ∧ lacks d = 0) ∨ (0 < (bs d).size ∧ ∃ h : (bs d).size - 1 < (bs d).size, (((bs d)[(bs d).size - 1]'h).toNat = 10 ∧ lacks d = 0) ∨ (((bs d)[(bs d).size - 1]'h).toNat ≠ 10 ∧ lacks d = 1))) := Lib.hid (more_of d)
    clear y0 y1 g1 g2 hc hsd G4 F8 Q5 AD SM H4 H8 HB d9 x0
    generalize hT : bs (soB d) = t at *
    generalize hS : bs d = s at *
    go_upto_region 10 with (fail)
    go_cut [68] from 59 to 68 (fun v wx => v = .bool (decide (lacks d = 1)) ∧ wS = wx)
    case first =>
      rcases MORE.out with ⟨h0, hl0⟩ | ⟨h0, hq2, h1 | h1⟩
      · obtain rfl := Lg.empty_of h0
        go_wp2_with (fail)
        go_meet
        case rel => exact ⟨by rw [hl0]; rfl, rfl⟩
      · obtain ⟨h1, hl0⟩ := h1
        have hne := Lg.some_ne (s := s) (by omega)
        have hne2 : ¬ Lg.tl s = [] := fun e => by have h2 := Lg.tl_len s; rw [e] at h2; simp at h2; omega
        have hne3 : ¬ s.toList = [] := by rw [Lib.toList_data]; exact hne2
        have jj : (1 : Int) ≤ (s.size : Int) := by omega
        clear hne2
        have g1 : (((s[s.size - 1]'hq2).toNat : Int) != 10) = false := by rw [h1]; rfl
        clear h1
        go_wp2_with (fail)
        go_meet
        case rel => exact ⟨by rw [hl0]; rfl, rfl⟩
      · obtain ⟨h1, hl0⟩ := h1
        have hne := Lg.some_ne (s := s) (by omega)
        have hne2 : ¬ Lg.tl s = [] := fun e => by have h2 := Lg.tl_len s; rw [e] at h2; simp at h2; omega
        have hne3 : ¬ s.toList = [] := by rw [Lib.toList_data]; exact hne2
        have jj : (1 : Int) ≤ (s.size : Int) := by omega
        clear hne2
        have g1 : (((s[s.size - 1]'hq2).toNat : Int) != 10) = true := by rw [bne_iff_ne]; omega
        clear h1
        go_wp2_with (fail)
        go_meet
        case rel => exact ⟨by rw [hl0]; rfl, rfl⟩
    case rest =>
     obtain ⟨rfl, rfl⟩ := hcut
     go_upto_if 68 with (fail)
     go_cut [7] (fun v wx => v = .int .i64 (lacks d) ∧ wS = wx)
     case first =>
      rcases (show lacks d = 0 ∨ lacks d = 1 by unfold lacks; split <;> simp) with hl0 | hl0
      · have hdl : decide (lacks d = 1) = false := decide_eq_false (by omega)
        rw [hdl]
        go_wp2_with (fail)
        go_meet
        case rel => exact ⟨by rw [hl0]; rfl, rfl⟩
      · have hdl : decide (lacks d = 1) = true := decide_eq_true (by omega)
        rw [hdl]
        go_wp2_with (fail)
        go_meet
        case rel => exact ⟨by rw [hl0]; rfl, rfl⟩
     case rest =>
      obtain ⟨rfl, rfl⟩ := hcut
      have hm1 : lacks d ≤ 1 := by unfold lacks; split <;> omega
      have ht1 : (t.size : Int) = (s.size : Int) + (lacks d : Int) := by have := HS.out; omega
      have ht2 : IntKind.i64.wrap ((s.size : Int) + (lacks d : Int)) = (s.size : Int) + (lacks d : Int) := IntWalk.i64_in _ (by omega)
      have ht3 : ((t.size : Int) != (s.size : Int) + (lacks d : Int)) = false := by rw [ht1]; simp
      clear ht1
      have hts : t.size ≤ 2001 := by have := HS.out; omega
      generalize hM : (lacks d : Int) = M at *
      have HM := Lib.hid hM
      have HT := Lib.hid hT
      have HSS := Lib.hid hS
      clear hM hT hS
      obtain ⟨W1, eW1⟩ : ∃ W1, W1 = wS.alloc (.cells Tryz.zeroCells40 40) := ⟨_, rfl⟩
      have C0 : Hid (CntAt W1 wS.heap.size (fun b => occ (soB d) 0 b - occ d 0 b)) := Lib.hid (by rw [eW1]; exact (CntAt.made wS).congr fun c => rfl)
      have b1 : Below wS.heap.size wS W1 := by rw [eW1]; exact (Below.refl _ _).alloc (Nat.le_refl _) _
      go_upto_region 14 with (fail)
      go_wp2_with (fail)
      rw [← eW1]
      clear eW1
      go_loopw [9] (fun i V => ∃ k : Nat, i = .int .i64 k ∧ k ≤ t.size ∧ CntAt V wS.heap.size (fun b => occ (soB d) k b - occ d k b) ∧ Below wS.heap.size wS V) (fun i _ => t.size - (intOf i).toNat)
      case atStart => exact ⟨0, rfl, by omega, C0.out, b1⟩
      case round =>
        obtain ⟨k, rfl, hk, hc, hb⟩ := hrel
        have HC := Lib.hid hc
        have HB := Lib.hid hb
        clear hc hb C0 b1
        by_cases hlt : k < t.size
        · have hkI : (k : Int) < (t.size : Int) := by omega
          have N1 := Lib.hid (ON.out k hlt)
          have b256 := (t[k]'hlt).toNat_lt
          have c0 : wr.cell? ⟨wS.heap.size, (t[k]'hlt).toNat, none⟩ = some (.int .i64 (occ (soB d) k (t[k]'hlt) - occ d k (t[k]'hlt))) := (HC.out.cell (t[k]'hlt)).1
          have f0 := (HC.out.cell (t[k]'hlt)).2
          have k1 := occ_le (soB d) k (t[k]'hlt)
          have k2 := occ_le d k (t[k]'hlt)
          obtain ⟨x, hx⟩ : ∃ x, x = occ (soB d) k (t[k]'hlt) - occ d k (t[k]'hlt) := ⟨_, rfl⟩
          rw [← hx] at c0
          have hx1 : -2100 ≤ x ∧ x ≤ 2100 := by omega
          have HX := Lib.hid hx
          clear hx k1 k2
          have i1 : IntKind.i64.wrap (x + 1) = x + 1 := IntWalk.i64_in _ (by omega)
          have C1 := Lib.hid (HC.out.put (t[k]'hlt) (x + 1))
          obtain ⟨hx1, hx2⟩ := hx1
          by_cases hls : k < s.size
          · have hsI : (k : Int) < (s.size : Int) := by omega
            have N2 := Lib.hid (OD.out k hls)
            have s256 := (s[k]'hls).toNat_lt
            obtain ⟨c1, f1⟩ := C1.out.cell (s[k]'hls)
            have k1 := occ_le (soB d) k (s[k]'hls)
            have k2 := occ_le d k (s[k]'hls)
            obtain ⟨y, hy⟩ : ∃ y, y = (if (s[k]'hls) = (t[k]'hlt) then x + 1 else occ (soB d) k (s[k]'hls) - occ d k (s[k]'hls)) := ⟨_, rfl⟩
            have c1' : (wr.setCell ⟨wS.heap.size, (t[k]'hlt).toNat, none⟩ (.int .i64 (x + 1))).cell? ⟨wS.heap.size, (s[k]'hls).toNat, none⟩ = some (.int .i64 y) := by rw [hy]; exact c1
            have hy1 : -2200 ≤ y ∧ y ≤ 2200 := by
              rw [hy]
              split <;> omega
            have i2 : IntKind.i64.wrap (y - 1) = y - 1 := IntWalk.i64_in _ (by omega)
            have C2 := Lib.hid (C1.out.put (s[k]'hls) (y - 1))
            have HY := Lib.hid hy
            obtain ⟨hy1, hy2⟩ := hy1
            clear c1 hy k1 k2
            have EQ : Hid (∀ c, (if c = (s[k]'hls) then y - 1 else if c = (t[k]'hlt) then x + 1 else occ (soB d) k c - occ d k c) = occ (soB d) (k + 1) c - occ d (k + 1) c) := Lib.hid (cnt_two N1.out N2.out HX.out HY.out)
            clear C1
            go_wp2_with (fail)
            go_roundw
            case rel => exact ⟨k + 1, by go_num, by omega, C2.out.congr EQ.out, (HB.out.setCell (p := ⟨wS.heap.size, (t[k]'hlt).toNat, none⟩) (Nat.le_refl _) _).setCell (p := ⟨wS.heap.size, (s[k]'hls).toNat, none⟩) (Nat.le_refl _) _⟩
            case measure => simp [intOf]; omega
          · have hsI : ¬ (k : Int) < (s.size : Int) := by omega
            have N2 := Lib.hid (OP.out k (by omega))
            have EQ : Hid (∀ c, (if c = (t[k]'hlt) then x + 1 else occ (soB d) k c - occ d k c) = occ (soB d) (k + 1) c - occ d (k + 1) c) := Lib.hid (cnt_one N1.out N2.out HX.out)
            go_wp2_with (fail)
            go_roundw
            case rel => exact ⟨k + 1, by go_num, by omega, C1.out.congr EQ.out, HB.out.setCell (p := ⟨wS.heap.size, (t[k]'hlt).toNat, none⟩) (Nat.le_refl _) _⟩
            case measure => simp [intOf]; omega
        · obtain rfl : k = t.size := by omega
          have FIN : Hid (∀ c, occ (soB d) t.size c - occ d t.size c = if c = 10 then M else 0) := Lib.hid fun c => by
            have h3 := Lg.tl_len (bs (soB d))
            rw [HT.out] at h3
            have h4 : (Lg.tl t).length = (soB d).length := by rw [← HT.out]; rfl
            have h5 := HD2.out
            have := HS.out
            rw [← HM.out]
            exact cnt_end d (by omega) (by omega) c
          have C1 := Lib.hid (HC.out.congr FIN.out)
          have c10 : wr.cell? ⟨wS.heap.size, 10, none⟩ = some (.int .i64 M) := (C1.out.cell 10).1
          have f10 : wr.frozen? ⟨wS.heap.size, 10, none⟩ = false := (C1.out.cell 10).2
          have C2 : Hid (CntAt (wr.setCell ⟨wS.heap.size, 10, none⟩ (.int .i64 0)) wS.heap.size (fun _ => 0)) := Lib.hid ((C1.out.put 10 0).congr fun c => by
            show (if c = 10 then (0 : Int) else if c = 10 then M else 0) = 0
            split <;> simp_all)
          have B2 : Hid (Below wS.heap.size wS (wr.setCell ⟨wS.heap.size, 10, none⟩ (.int .i64 0))) := Lib.hid (HB.out.setCell (p := ⟨wS.heap.size, 10, none⟩) (Nat.le_refl _) _)
          have i0 : IntKind.i64.wrap (M - M) = 0 := by rw [Int.sub_self]; rfl
          have TL : Hid (t = bs (sortL (linesB d)).flatten) := Lib.hid HT.out.symm
          have LN := Lib.hid (so_lines d)
          have RI := Lib.hid (sort_rises (linesB d))
          generalize sortL (linesB d) = L at *
          clear FIN C1 HC HB ON OD OP MORE LC HT HSS HM HS
          go_upto_region 22 with (fail)
          go_wp2_with (fail)
          go_loopw [10] (fun i V => ∃ k : Nat, i = .int .i64 k ∧ k ≤ 256 ∧ CntAt V wS.heap.size (fun _ => 0) ∧ Below wS.heap.size wS V) (fun i _ => 256 - (intOf i).toNat)
          case atStart => exact ⟨0, rfl, by omega, C2.out, B2.out⟩
          case round =>
            obtain ⟨k, rfl, hk, hc, hb⟩ := hrel
            have HC := Lib.hid hc
            have HB := Lib.hid hb
            clear hc hb C2 B2
            by_cases hlt : k < 256
            · have hkI : (k : Int) < 256 := by omega
              have hkn : (UInt8.ofNat k).toNat = k := by rw [UInt8.toNat_ofNat']; omega
              have c0 := (HC.out.cell (UInt8.ofNat k)).1
              rw [hkn] at c0
              clear hkn
              go_wp2_with (fail)
              go_roundw
              case rel => exact ⟨k + 1, by go_num, by omega, HC.out, HB.out⟩
              case measure => simp [intOf]; omega
            · obtain rfl : k = 256 := by omega
              go_upto_region 27 with (fail)
              go_upto_region 29 with (fail)
              have TS : Hid (t.size = L.flatten.length) := Lib.hid (by
                rw [TL.out]
                have h3 := Lg.tl_len (bs L.flatten)
                have h4 : (Lg.tl (bs L.flatten)).length = L.flatten.length := rfl
                omega)
              have NL : Hid (∀ k (h : k < t.size) j (hj : j < L.length), offs L j ≤ k → k < offs L (j + 1) → ((t[k]'h).toNat = 10 ↔ k + 1 = offs L (j + 1))) := Lib.hid fun k h j hj h1 h2 => nl_of LN.out TL.out h hj h1 h2
              have EX : Hid (∀ k j (hj : j < L.length), k + 1 = offs L (j + 1) → t.extract (offs L j) (k + 1) = bs L[j]) := Lib.hid fun k j hj h => by rw [TL.out]; exact ext_line hj h
              have ON : Hid (∀ j (hj : j < L.length), offs L j < offs L (j + 1)) := Lib.hid fun j hj => by
                obtain ⟨p, hp, _⟩ := LN.out _ (List.getElem_mem hj)
                rw [offs_next hj, hp, List.length_append, List.length_singleton]
                omega
              have LE : Hid (∀ j (hj : j < L.length), Op.bytesLess (bs L[j]).toList (bs (lastL L j)).toList = false) := Lib.hid fun j hj => less_no (last_le RI.out hj)
              have OA : Hid (offs L L.length = t.size) := Lib.hid ((offs_all L).trans TS.out.symm)
              have OM := Lib.hid (fun i j h => @offs_mono L i j h)
              have LX := Lib.hid (fun j hj => @last_next L j hj)
              go_wp2_with (fail)
              go_loopw [11, 12, 13] (fun la at_ i V => ∃ k j : Nat, i = .int .i64 k ∧ at_ = .int .i64 (offs L j) ∧ la = .string (bs (lastL L j)) ∧ k ≤ t.size ∧ j ≤ L.length ∧ offs L j ≤ k ∧ (j < L.length → k < offs L (j + 1)) ∧ Below wS.heap.size wS V) (fun _ _ i _ => t.size - (intOf i).toNat)
              case atStart =>
                refine ⟨0, 0, rfl, rfl, by rw [last_zero]; rfl, Nat.zero_le _, Nat.zero_le _, Nat.le_refl _, fun h => ?_, HB.out⟩
                have := ON.out 0 h
                omega
              case round =>
                obtain ⟨k, j, rfl, rfl, rfl, hk, hj, ho, hn, hb⟩ := hrel
                have HB := Lib.hid hb
                clear hb
                by_cases hlt : k < t.size
                · have hkI : (k : Int) < (t.size : Int) := by omega
                  have hjl : j < L.length := by
                    rcases Nat.lt_or_ge j L.length with h | h
                    · exact h
                    · obtain rfl : j = L.length := by omega
                      have := OA.out
                      omega
                  have hn2 := hn hjl
                  have N := NL.out k hlt j hjl ho hn2
                  by_cases h10 : k + 1 = offs L (j + 1)
                  · have g1 : (((t[k]'hlt).toNat : Int) == 10) = true := by rw [N.2 h10]; rfl
                    have ex := EX.out k j hjl h10
                    have le := LE.out j hjl
                    have o1 : (0 : Int) ≤ (offs L j : Int) := by omega
                    have o2 : (offs L j : Int) ≤ (k : Int) + 1 := by omega
                    have o3 : (k : Int) + 1 ≤ (t.size : Int) := by omega
                    have F : Hid ((.string (bs L[j]) : Value) = .string (bs (lastL L (j + 1)))) := Lib.hid (by rw [LX.out j hjl])
                    have H10 := Lib.hid h10
                    have REL : Hid (j + 1 < L.length → k + 1 < offs L (j + 1 + 1)) := Lib.hid fun h => by
                      have := ON.out (j + 1) h
                      omega
                    clear N hn hn2 h10
                    generalize offs L j = o at *
                    go_wp2_with (fail)
                    go_roundw
                    case rel => exact ⟨k + 1, j + 1, by go_num, by rw [← H10.out]; go_num, F.out, by omega, by omega, by rw [← H10.out]; exact Nat.le_refl _, REL.out, HB.out⟩
                    case measure => simp [intOf]; omega
                  · have g1 : (((t[k]'hlt).toNat : Int) == 10) = false := by
                      rw [beq_eq_false_iff_ne]
                      intro h
                      exact h10 (N.1 (by omega))
                    have hk1 : k + 1 < offs L (j + 1) := by omega
                    have HK1 := Lib.hid hk1
                    clear N hn hn2 h10 hk1
                    go_wp2_with (fail)
                    go_roundw
                    case rel => exact ⟨k + 1, j, by go_num, rfl, rfl, by omega, by omega, by omega, fun _ => HK1.out, HB.out⟩
                    case measure => simp [intOf]; omega
                · obtain rfl : k = t.size := by omega
                  have hjl : j = L.length := by
                    rcases Nat.lt_or_ge j L.length with h | h
                    · have h1 := hn h
                      have h2 := OM.out (j + 1) L.length (by omega)
                      have h3 := OA.out
                      omega
                    · omega
                  have oe : offs L j = t.size := by rw [hjl]; exact OA.out
                  rw [oe]
                  have g1 : ((t.size : Int) == (t.size : Int)) = true := by simp
                  have hA := HB9.out _ (bS.trans (HB.out.mono bS.size))
                  clear hn oe
                  go_wp2_with (go_at_call 12; (with_reducible refine (AW.out _ hA).mono ?_); rintro e wz ⟨rfl, bz⟩)
                  go_ret
                  exact ⟨rfl, hA.trans (bz.mono hA.size)⟩
end Go.Proofs.YthkaehnhdldbbaaGreatDoor.Bx
