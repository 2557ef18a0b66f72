/- Joined by mkmerged.py: BxFine, BxWrites, BxWithoutW, BxHas, BxSteps. -/
import Derived.Test.YtdidnlkilleljaaGreatDoorMg27
import Derived.Test.YtdidnlkilleljaaGreatDoorMg28
import Derived.Test.YtdidnlkilleljaaGreatDoorMg29
import Derived.Test.YtdidnlkilleljaaGreatDoorMg05
import Derived.Test.YtdidnlkilleljaaGreatDoorMg23
import Derived.Test.YtdidnlkilleljaaGreatDoorMg25
import Derived.Test.YtdidnlkilleljaaGreatDoorMg04
/- BxFine, what a claim needs of it (prune.py). -/
namespace Go.Proofs.YtdidnlkilleljaaGreatDoor.Bx
open Lg (Stp)
open Fs (B)
set_option linter.unusedVariables false
def needsQ (Q : B → Prop) : List Stp → Prop
  | [] => True
  | ⟨o, a, n, b⟩ :: r => (o = 7 → Q (a.getD 0 [])) ∧ needsQ Q b ∧ needsQ Q r
structure Fine (Q : B → Prop) (s : St) : Prop where
  files : RightF s.files
  shape : (s.kind = 0 ∧ s.err = 0 ∧ s.need = [] ∧ s.text = []) ∨ (s.kind = 2 ∧ s.err = 0 ∧ s.text = [] ∧ 1 ≤ s.used ∧ Q s.need) ∨ (s.kind = 3 ∧ s.err ≠ 0 ∧ s.need = [] ∧ 1 ≤ s.used)
def Keeps (Q : B → Prop) (f : St → St) : Prop := ∀ s, Fine Q s → over s = false → Fine Q (f s)
theorem Fine.zero {Q : B → Prop} {s : St} (h : Fine Q s) (ho : over s = false) : s.kind = 0 ∧ s.err = 0 ∧ s.need = [] ∧ s.text = [] := by
  have k := kind0 ho
  rcases h.shape with h | h | h
  · exact h
  · rw [k] at h; exact absurd h.1 (by decide)
  · rw [k] at h; exact absurd h.1 (by decide)
theorem fine_fail {Q : B → Prop} {s : St} {e : Int} {t : B} (h : Fine Q s) (ho : over s = false) (hu : 1 ≤ s.used) (he : e ≠ 0) : Fine Q (fail e t s) := ⟨h.files, .inr (.inr ⟨rfl, he, (h.zero ho).2.2.1, hu⟩)⟩
theorem spend_fine {Q : B → Prop} {fu n : Nat} (hf : 1 ≤ fu) (hn : 1 ≤ n) {k : St → St} (hk : ∀ s, Fine Q s → over s = false → 1 ≤ s.used → Fine Q (k s)) : Keeps Q (spend fu n k) := fun s hs ho => by
  unfold spend
  by_cases h : fu < s.used + n
  · rw [if_pos h]
    exact ⟨hs.files, .inr (.inr ⟨rfl, by show (34 : Int) ≠ 0; decide, (hs.zero ho).2.2.1, hf⟩)⟩
  · rw [if_neg h]
    exact hk _ ⟨hs.files, .inl (hs.zero ho)⟩ ho (by show 1 ≤ s.used + n; omega)
theorem loop_keeps {Q : B → Prop} {f : St → St} (hf : Keeps Q f) : ∀ n, Keeps Q (loopF f n)
  | 0 => fun s hs _ => hs
  | n + 1 => fun s hs ho => by
    have h := hf s hs ho
    rw [loopF]
    by_cases h2 : over (f s) = true
    · rw [if_pos h2]; exact h
    · rw [if_neg h2]; exact loop_keeps hf n _ h (by simpa using h2)
theorem lay_fine {Q : B → Prop} (p d : B) (s : St) (hs : Fine Q s) (ho : over s = false) (hu : 1 ≤ s.used) : Fine Q (lay withF p d s) := by
  unfold lay
  by_cases h : (withF s.files p d).2 ≠ 0
  · rw [if_pos h]; exact fine_fail hs ho hu h
  · rw [if_neg h]
    exact ⟨with_right hs.files (by simpa using h), .inl (hs.zero ho)⟩
theorem writes_keeps {Q : B → Prop} {fu : Nat} (hf : 1 ≤ fu) (p : B) (rs : List B) (mk : B → B) : Keeps Q (writes fu withF p rs mk) := fun s hs ho => by
  unfold writes
  cases reads s.files rs [] with
  | inl q => exact spend_fine hf (Nat.le_refl _) (fun s hs ho hu => fine_fail hs ho hu (by decide)) s hs ho
  | inr d => exact spend_fine hf (Nat.le_add_right _ _) (fun s hs ho hu => lay_fine _ _ s hs ho hu) s hs ho
variable {names : List B} {up so : B → B}
theorem does_keeps {Q : B → Prop} {fu : Nat} (hfu : 1 ≤ fu) (o : Int) (a : List B) (n : Int) (hq : o = 7 → Q (a.getD 0 [])) {f : St → St} (hf : Keeps Q f) : Keeps Q (does fu withF withoutF names up so o a n f) := fun s hs ho => by
  unfold does
  by_cases c1 : o = 1
  · rw [if_pos c1]; exact writes_keeps hfu _ _ _ s hs ho
  rw [if_neg c1]
  by_cases c2 : o = 2
  · rw [if_pos c2]; exact writes_keeps hfu _ _ _ s hs ho
  rw [if_neg c2]
  by_cases c3 : o = 3
  · rw [if_pos c3]; exact writes_keeps hfu _ _ _ s hs ho
  rw [if_neg c3]
  by_cases c4 : o = 4
  · rw [if_pos c4]; exact writes_keeps hfu _ _ _ s hs ho
  rw [if_neg c4]
  by_cases c5 : o = 5
  · rw [if_pos c5]; exact writes_keeps hfu _ _ _ s hs ho
  rw [if_neg c5]
  refine spend_fine hfu (Nat.le_refl _) (fun s hs ho hu => ?_) s hs ho
  by_cases c6 : o = 6
  · rw [if_pos c6]; exact ⟨without_right hs.files _, .inl (hs.zero ho)⟩
  rw [if_neg c6]
  by_cases c7 : o = 7
  · rw [if_pos c7]
    by_cases m : a.getD 0 [] ∈ names
    · rw [if_pos m]; exact hs
    · rw [if_neg m]
      have z := hs.zero ho
      exact ⟨hs.files, .inr (.inl ⟨rfl, z.2.1, z.2.2.2, hu, hq c7⟩)⟩
  rw [if_neg c7]
  by_cases c8 : o = 8
  · rw [if_pos c8]; exact fine_fail hs ho hu (by decide)
  rw [if_neg c8]
  by_cases c9 : o = 9
  · rw [if_pos c9]; exact loop_keeps hf _ s hs ho
  rw [if_neg c9]
  by_cases c10 : o = 10
  · rw [if_pos c10]
    by_cases m : (Fs.get s.files (a.getD 0 [])).isSome = true
    · rw [if_pos m]; exact hf s hs ho
    · rw [if_neg m]; exact hs
  rw [if_neg c10]
  exact hs
theorem all_keeps {Q : B → Prop} {fu : Nat} (hfu : 1 ≤ fu) : ∀ l : List Stp, needsQ Q l → Keeps Q (all fu withF withoutF names up so l)
  | [], _ => fun s hs _ => by rw [all]; exact hs
  | ⟨o, a, n, b⟩ :: r, h => fun s hs ho => by
    rw [needsQ] at h
    have hb := all_keeps (Q := Q) hfu b h.2.1
    have hr := all_keeps (Q := Q) hfu r h.2.2
    rw [all, if_neg (by rw [ho]; simp)]
    have h1 := does_keeps (names := names) (up := up) (so := so) hfu o a n h.1 hb s hs ho
    by_cases h2 : over (does fu withF withoutF names up so o a n (all fu withF withoutF names up so b) s) = true
    · rw [(all_fair fu r).over _ h2]; exact h1
    · exact hr _ h1 (by simpa using h2)
theorem run_fine {Q : B → Prop} {fu : Nat} (hfu : 1 ≤ fu) {l : List Stp} (hq : needsQ Q l) {fs : List Fl} (h : RightF fs) : Fine Q (run withF withoutF names up so fu l fs) := all_keeps hfu l hq (start fs) ⟨h, .inl ⟨rfl, rfl, rfl, rfl⟩⟩ rfl
end Go.Proofs.YtdidnlkilleljaaGreatDoor.Bx
/- BxWrites, what a claim needs of it (prune.py). -/
namespace Go.Proofs.YtdidnlkilleljaaGreatDoor.Bx
open Go.RowKit
open Lg (BelowX Lies strV)
open Fs (fc fc_len fc_cell Fls Env B)
set_option linter.unusedVariables false
set_option maxRecDepth 100000
def EnvB (b : Nat) (w : World) : Prop := ∃ w0, Env w0 ∧ w0.heap.size ≤ b ∧ Below w0.heap.size w0 w
theorem EnvB.env {b : Nat} {w : World} (h : EnvB b w) : Env w := by
  obtain ⟨w0, h1, h2, h3⟩ := h
  exact h1.below h3
theorem EnvB.on {b : Nat} {w w' : World} (h : EnvB b w) (hb : Below w.heap.size w w') : EnvB b w' := by
  obtain ⟨w0, h1, h2, h3⟩ := h
  exact ⟨w0, h1, h2, h3.trans (hb.mono h3.size)⟩
theorem EnvB.onX {b : Nat} {w w' : World} (h : EnvB b w) (hb : BelowX w.heap.size b w w') : EnvB b w' := by
  obtain ⟨w0, h1, h2, h3⟩ := h
  exact ⟨w0, h1, h2, h3.trans (hb.below h3.size h2)⟩
def Makes (gf : Nat) (lb : Array Value) (mk : B → B) (w : World) : Prop := ∀ (d : B) (W : World), d.length ≤ 30000 → Below w.heap.size w W → Calls Tryz.prog gf (#[.string (bs d)] ++ lb) W fun e w' => e = .returned (.string (bs (mk d))) ∧ Below W.heap.size W w'
theorem Went.after {b fu : Nat} {N : Option Addr} {nn nc : Nat} {w W : World} {s' : St} {e : Ending} {w' : World} (h : BelowX w.heap.size b w W) (k : Went b fu N nn nc W s' e w') : Went b fu N nn nc w s' e w' := ⟨k.1, k.2.1, h.trans (k.2.2.mono h.size)⟩
theorem StAt.filed {w w1 : World} {b fu : Nat} {N A : Option Addr} {nn nc c B0 : Nat} {s : St} {m : List Fl} {v : Value} (h : StAt w b fu N nn nc A c s) (hb : Below w.heap.size w w1) (ho : w1.ownsRow B0 49 2 v m.length (fc m)) (hB : b < B0) :
    StM (w1.setCell ⟨b, 0, none⟩ v) b fu N nn nc { s with files := m } := by
  have hblk := heap_below hb (lt_heap h.blk) h.blk
  obtain ⟨_, ⟨rfl, rfl⟩ | ⟨g, cap, cur, rfl, hBg, hh, hc, hc2, h3, h4⟩⟩ := own_open ho
  · exact ⟨none, 0, (heap_set hblk).trans rfl, Lies.none_, Nat.le_refl _⟩
  · refine ⟨some ⟨g, 0, none⟩, cap, (heap_set hblk).trans rfl, ⟨fc_len m, fun _ => ⟨_, rfl, by show g ≠ b; omega, fun j u hu => ?_⟩⟩, hc⟩
    have hg : (w1.setCell ⟨b, 0, none⟩ (.slice (some ⟨g, 0, none⟩) m.length cap)).heap[g]? = some (.cells cur 49 (0, 0)) := (heap_set_ne (by omega)).trans hh
    rw [Lg.add_eq, cell_heap hg]
    exact cur_at h4 hu
theorem get_size {l : List Fl} (h : RightF l) {p : B} {d : ByteArray} (hg : Fs.get l p = some d) : d.size ≤ 2048 := by
  unfold Fs.get at hg
  cases e : l.find? (fun f => decide (tl f.p = p)) with
  | none => rw [e] at hg; cases hg
  | some f =>
    rw [e] at hg
    simp only [Option.map_some, Option.some.injEq] at hg
    subst hg
    exact (h.each f (List.mem_of_find?_eq_some e)).2
set_option maxHeartbeats 8000000 in
theorem writes_any {w : World} {b fu : Nat} {N A : Option Addr} {nn nc c : Nat} {s : St} (hE : EnvB b w) (h : StAt w b fu N nn nc A c s) (hR : RightF s.files) (hu : s.used ≤ fu) (hfu : fu ≤ 2000) (p : B) (R : Option Addr) (rs : List B) (rc : Nat)
    (hr : Lies w (fun k => k ≠ b) 1 R rs.length (strV rs)) (hrs : rs.length ≤ 8) (gf : Nat) (lb : Array Value) (eg : ∀ args w, (callFunc gf args).run Tryz.prog w = .ok (.enter gf args) w) (mk : B → B) (hmk : Makes gf lb mk w) (hml : ∀ d : B, d.length ≤ 30000 → (mk d).length ≤ 40000) :
    Calls Tryz.prog 116 #[.pointer (some ⟨b, 0, none⟩), .string (bs p), .slice R rs.length rc, .func (.func gf) #[] lb] w (Went b fu N nn nc w (writes fu withF p rs mk s)) := by
  have hbw := lt_heap h.blk
  have HS := Lib.hid (fun W (hW : Below w.heap.size w W) => h.keep hW)
  have HE := Lib.hid (fun W (hW : Below w.heap.size w W) => hE.on hW)
  have MK := Lib.hid hmk
  have ML := Lib.hid hml
  have HR := Lib.hid hR
  have hlen := hR.len
  have RD : Hid (∀ W, Below w.heap.size w W → Reads W W.heap.size 1 R rs.length (strV rs)) := Lib.hid fun W hW => (hr.mono (ok' := fun k => k ≠ b) (by decide) fun k hk hs => ⟨hk, hW.block k hs⟩).reads (by decide)
  have GET : Hid (∀ W (n : B), Below w.heap.size w W → Calls Tryz.prog 79 #[.slice A s.files.length c, .string (bs n)] W (Fs.GetSays s.files n W)) := Lib.hid fun W n hW => Fs.get_any A s.files c (bs n) W (HS.out W hW).flsr (by omega)
  have C0 : Hid (∀ W, Below w.heap.size w W → W.cell? ⟨b, 0, none⟩ = some (.slice A s.files.length c)) := Lib.hid fun W hW => (cell_heap (HS.out W hW).blk 0).trans rfl
  -- out of what may be spent, or one more is spent and the path is not there
  have NONE : Hid (∀ q, reads s.files rs [] = .inl q → ∀ W, Below w.heap.size w W → ∀ e w', Went b fu N nn nc W (spend fu 1 (fail 17 q) s) e w' → Went b fu N nn nc w (writes fu withF p rs mk s) e w') := Lib.hid fun q hq W hW e w' hw => by
    unfold writes
    rw [hq]
    exact hw.after (.of hW)
  have SOME : Hid (∀ d, reads s.files rs [] = .inr d → ∀ W, Below w.heap.size w W → ∀ e w', Went b fu N nn nc W (spend fu (1 + ((mk d).length + 63) / 64) (lay withF p (mk d)) s) e w' → Went b fu N nn nc w (writes fu withF p rs mk s) e w') := Lib.hid fun d hd W hW e w' hw => by
    unfold writes
    rw [hd]
    exact hw.after (.of hW)
  have START : Hid (reads s.files rs [] = reads s.files (rs.drop 0) []) := Lib.hid (by rw [List.drop_zero])
  obtain ⟨z, hz⟩ : ∃ z, z = reads s.files rs [] := ⟨_, rfl⟩
  clear h hE hmk hml hr hR
  generalize Went b fu N nn nc w (writes fu withF p rs mk s) = Q at *
  go_enter Tryz.func116, Tryz.ntmps116
  go_wp2_with (fail)
  go_loopw [18] (fun i W => ∃ (k : Nat) (acc : B), i = .int .i64 k ∧ k ≤ rs.length ∧ Hid (reads s.files rs [] = reads s.files (rs.drop k) acc) ∧ acc.length ≤ 2048 * k ∧ SbAt w.heap.size w.heap.size acc W ∧ Below w.heap.size w W) (fun i _ => rs.length - (intOf i).toNat)
  case atStart => exact ⟨0, [], rfl, by omega, START, by simp, Lib.fresh_isBuilder _ _ w, (Below.refl _ _).alloc (Nat.le_refl _) _⟩
  case round =>
    obtain ⟨k, acc, rfl, hk, RE, hacc, hsb, hb⟩ := hrel
    have SB := Lib.hid hsb
    have hwb := hb.size
    clear hsb START
    by_cases hlt : k < rs.length
    · have hkI : (k : Int) < (rs.length : Int) := by omega
      have hbr : b < wr.heap.size := by omega
      obtain ⟨ad, u, rfl, had, hue, c1⟩ := (RD.out wr hb).at_ hlt
      have hue' : u = .string (bs rs[k]) := by
        rw [List.getElem?_map, List.getElem?_eq_getElem hlt] at hue
        exact (Option.some.inj hue).symm
      subst hue'
      have c0 := C0.out wr hb
      have GA := Lib.hid (GET.out wr rs[k] hb)
      have DR : Hid (rs.drop k = rs[k] :: rs.drop (k + 1)) := Lib.hid (List.drop_eq_getElem_cons hlt)
      clear hue
      cases hg : Fs.get s.files rs[k] with
      | none =>
        have RN : Hid (reads s.files rs [] = .inl rs[k]) := Lib.hid (by rw [RE.out, DR.out, Bx.reads, hg])
        have GN : Hid (∀ e w', Fs.GetSays s.files rs[k] wr e w' → e = .returned (.tuple #[.string ⟨#[]⟩, .bool false]) ∧ Below wr.heap.size wr w') := Lib.hid fun e w' hh => by
          unfold Fs.GetSays at hh
          rw [hg] at hh
          exact hh
        have EN := Lib.hid (fun W hW e w' => NONE.out _ RN.out W hW e w')
        clear hg DR RE RN NONE SOME
        generalize rs[k] = q at *
        by_cases hn : fu < s.used + 1
        · have SP : Hid (∀ W, Below w.heap.size w W → Calls Tryz.prog 120 #[.pointer (some ⟨b, 0, none⟩), .int .i64 1] W (Spent b fu N nn nc W (dry fu s) false)) := Lib.hid fun W hW => spend_no (HS.out W hW) 1 hn hu hfu (by omega)
          have E2 : Hid (∀ W, Below w.heap.size w W → ∀ w', StM w' b fu N nn nc (dry fu s) → BelowX W.heap.size b W w' → Q (.returned (.tuple #[])) w') := Lib.hid fun W hW w' h1 h2 => EN.out W hW _ _ (by
            unfold spend
            rw [if_pos hn]
            exact ⟨rfl, h1, h2⟩)
          clear EN hn HS GET RD C0
          go_wp2_with (first
            | (go_at_call 79; (with_reducible refine (GA.out).mono ?_); rintro e w2 hh; obtain ⟨rfl, hb2⟩ := GN.out _ _ hh; clear hh; have h2 := hb.trans (hb2.mono hb.size); clear hb2)
            | (go_at_call 120; (with_reducible refine (SP.out _ h2).mono ?_); rintro e w3 ⟨rfl, h3, h4⟩))
          go_end0
          exact E2.out _ h2 _ h3 h4
        · have SP : Hid (∀ W, Below w.heap.size w W → Calls Tryz.prog 120 #[.pointer (some ⟨b, 0, none⟩), .int .i64 1] W (Spent b fu N nn nc W { s with used := s.used + 1 } true)) := Lib.hid fun W hW => spend_yes (HS.out W hW) 1 hn hfu
          have E2 : Hid (∀ W, Below w.heap.size w W → ∀ W2, BelowX W.heap.size b W W2 → ∀ w', StM w' b fu N nn nc (fail 17 q { s with used := s.used + 1 }) → BelowX W2.heap.size b W2 w' → Q (.returned (.tuple #[])) w') := Lib.hid fun W hW W2 hX w' h1 h2 => EN.out W hW _ _ (by
            unfold spend
            rw [if_neg hn]
            exact Went.after hX ⟨rfl, h1, h2⟩)
          clear EN hn HS GET RD C0
          go_wp2_with (first
            | (go_at_call 79; (with_reducible refine (GA.out).mono ?_); rintro e w2 hh; obtain ⟨rfl, hb2⟩ := GN.out _ _ hh; clear hh; have h2 := hb.trans (hb2.mono hb.size); clear hb2)
            | (go_at_call 120; (with_reducible refine (SP.out _ h2).mono ?_); rintro e w3 ⟨rfl, h3, h4⟩; obtain ⟨A3, c3, h3⟩ := h3; have FA := Lib.hid (fail_any h3 17 q); clear h3)
            | (go_at_call 170; (with_reducible refine (FA.out).mono ?_); rintro e w4 ⟨rfl, h5, h6⟩))
          go_end0
          exact E2.out _ h2 _ h4 _ h5 h6
      | some d =>
        have hds := get_size HR.out hg
        have RN : Hid (reads s.files rs [] = reads s.files (rs.drop (k + 1)) (acc ++ tl d)) := Lib.hid (by rw [RE.out, DR.out, Bx.reads, hg])
        have GN : Hid (∀ e w', Fs.GetSays s.files rs[k] wr e w' → e = .returned (.tuple #[.string d, .bool true]) ∧ Below wr.heap.size wr w') := Lib.hid fun e w' hh => by
          unfold Fs.GetSays at hh
          rw [hg] at hh
          exact hh
        have ACC : Hid ((acc ++ tl d).length ≤ 2048 * (k + 1)) := Lib.hid (by rw [List.length_append, Fs.tl_len]; omega)
        have WS : Hid (∀ W, SbAt w.heap.size w.heap.size acc W → w.heap.size ≤ W.heap.size → Calls Tryz.prog 108 #[.pointer (some ⟨w.heap.size, 0, none⟩), .string d] W fun e w' => e = .returned (.tuple #[.int .i64 d.size, .nilIface]) ∧ SbAt w.heap.size w.heap.size (acc ++ d.data.toList) w' ∧ Below w.heap.size W w') := Lib.hid fun W h1 h2 => WriteString_any _ _ acc d W h1 (by omega) h2
        clear hg DR RE NONE SOME HS GET RD C0
        generalize rs[k] = q at *
        go_wp2_with (first
          | (go_at_call 79; (with_reducible refine (GA.out).mono ?_); rintro e w2 hh; obtain ⟨rfl, hb2⟩ := GN.out _ _ hh; clear hh; have h2 := hb.trans (hb2.mono hb.size); have S2 := Lib.hid (Lg.SbAt.later SB.out hb2); clear hb2)
          | (go_at_call 108; (with_reducible refine (WS.out _ S2.out h2.size).mono ?_); rintro e w3 ⟨rfl, h3, h4⟩; have S3 := Lib.hid h3; have h5 := h2.trans h4; clear h3 h4))
        go_roundw
        case rel => exact ⟨k + 1, acc ++ tl d, by go_num, by omega, RN, ACC.out, S3.out, h5⟩
        case measure => simp [intOf]; omega
    · obtain rfl : k = rs.length := by omega
      have RN : Hid (reads s.files rs [] = .inr acc) := Lib.hid (by rw [RE.out, List.drop_length, Bx.reads])
      have hal : acc.length ≤ 30000 := by omega
      have hml := ML.out acc hal
      have EN := Lib.hid (fun W hW e w' => SOME.out _ RN.out W hW e w')
      have BSTR : Hid (Calls Tryz.prog 111 #[.pointer (some ⟨w.heap.size, 0, none⟩)] wr fun e w' => e = .returned (.string (bs acc)) ∧ Below w.heap.size wr w') := Lib.hid (Lg.bstring_any _ _ acc wr SB.out hb.size)
      have MA : Hid (∀ W, Below w.heap.size w W → Calls Tryz.prog gf (#[.string (bs acc)] ++ lb) W fun e w' => e = .returned (.string (bs (mk acc))) ∧ Below W.heap.size W w') := Lib.hid fun W hW => MK.out acc W hal hW
      clear RN RE NONE SOME SB GET RD ML MK
      generalize hm : mk acc = m at *
      have hz0 := Fs.bs_len m
      have hz1 : (bs m).size ≤ m.length := by omega
      have hz2 : m.length ≤ (bs m).size := by omega
      clear hz0
      obtain ⟨M, hM⟩ : ∃ M, M = bs m := ⟨_, rfl⟩
      rw [← hM] at MA hz1 hz2
      have hq : ∀ q : Int, q = 1 + ((M.size : Int) + 64 - 1) / 64 → q = ((1 + (m.length + 63) / 64 : Nat) : Int) := fun q h => by omega
      have HQ := Lib.hid hq
      clear hq
      by_cases hn : fu < s.used + (1 + (m.length + 63) / 64)
      · have SP : Hid (∀ W, Below w.heap.size w W → Calls Tryz.prog 120 #[.pointer (some ⟨b, 0, none⟩), .int .i64 (1 + ((M.size : Int) + 64 - 1) / 64)] W (Spent b fu N nn nc W (dry fu s) false)) := Lib.hid fun W hW => by
          rw [HQ.out _ rfl]
          exact spend_no (HS.out W hW) _ hn hu hfu (by omega)
        have E2 : Hid (∀ W, Below w.heap.size w W → ∀ w', StM w' b fu N nn nc (dry fu s) → BelowX W.heap.size b W w' → Q (.returned (.tuple #[])) w') := Lib.hid fun W hW w' h1 h2 => EN.out W hW _ _ (by
          unfold spend
          rw [if_pos hn]
          exact ⟨rfl, h1, h2⟩)
        clear EN hn HS hM
        go_wp2_with (first
          | (go_at_call 111; (with_reducible refine (BSTR.out).mono ?_); rintro e w2 ⟨rfl, hb2⟩; have h2 := hb.trans hb2; clear hb2)
          | (go_at_fn gf; (with_reducible refine (MA.out _ h2).mono ?_); rintro e w3 ⟨rfl, hb3⟩; have h3 := h2.trans (hb3.mono h2.size); clear hb3)
          | (go_at_call 120; (with_reducible refine (SP.out _ h3).mono ?_); rintro e w4 ⟨rfl, h4, h5⟩))
        go_end0
        exact E2.out _ h3 _ h4 h5
      · have SP : Hid (∀ W, Below w.heap.size w W → Calls Tryz.prog 120 #[.pointer (some ⟨b, 0, none⟩), .int .i64 (1 + ((M.size : Int) + 64 - 1) / 64)] W (Spent b fu N nn nc W { s with used := s.used + (1 + (m.length + 63) / 64) } true)) := Lib.hid fun W hW => by
          rw [HQ.out _ rfl]
          exact spend_yes (HS.out W hW) _ hn hfu
        have E2 : Hid (∀ W, Below w.heap.size w W → ∀ W2, BelowX W.heap.size b W W2 → ∀ e w', Went b fu N nn nc W2 (lay withF p m { s with used := s.used + (1 + (m.length + 63) / 64) }) e w' → Q e w') := Lib.hid fun W hW W2 hX e w' h1 => EN.out W hW _ _ (by
          unfold spend
          rw [if_neg hn]
          exact Went.after hX h1)
        have HEX : Hid (∀ W, Below w.heap.size w W → ∀ W2, BelowX W.heap.size b W W2 → EnvB b W2) := Lib.hid fun W hW W2 hX => (HE.out W hW).onX hX
        have FZ : Hid (∀ g ∈ s.files, g.p.size ≤ 1000000000) := Lib.hid fun g hg => by have := path_size (HR.out.each g hg).1; omega
        obtain ⟨s1, hs1⟩ : ∃ s1 : St, s1 = { s with used := s.used + (1 + (m.length + 63) / 64) } := ⟨_, rfl⟩
        have hsf : s1.files = s.files := by rw [hs1]
        rw [← hs1] at SP E2
        have WI : Hid (∀ W A1 c1, StAt W b fu N nn nc A1 c1 s1 → EnvB b W → Calls Tryz.prog 80 #[.slice A1 s.files.length c1, .agg #[.string (bs p), .string M]] W fun e w' => ∃ v', e = .returned (.tuple #[v', .int .i64 (withF s.files p m).2]) ∧ w'.ownsRow W.heap.size 49 2 v' (withF s.files p m).1.length (fc (withF s.files p m).1) ∧ Below W.heap.size W w') := Lib.hid fun W A1 c1 hst hev => by
          have hfl := hst.flsr
          rw [hsf] at hfl
          have := with_any A1 s.files c1 ⟨bs p, M⟩ W hev.env hfl (by omega) FZ.out
          rw [hM] at this ⊢
          exact this
        have CF : Hid (∀ W A1 c1, StAt W b fu N nn nc A1 c1 s1 → W.cell? ⟨b, 0, none⟩ = some (.slice A1 s.files.length c1)) := Lib.hid fun W A1 c1 hst => (cell_heap hst.blk 0).trans (show some (Value.slice A1 s1.files.length c1) = some (.slice A1 s.files.length c1) by rw [hsf])
        clear EN hn HS hM hs1 HE HR
        by_cases he : (withF s.files p m).2 = 0
        · have LAY : Hid (lay withF p m s1 = { s1 with files := (withF s.files p m).1 }) := Lib.hid (by
            unfold lay
            rw [hsf, if_neg (by simp [he])])
          rw [he] at WI
          clear he hsf
          generalize (withF s.files p m).1 = ms at *
          go_wp2_with (first
            | (go_at_call 111; (with_reducible refine (BSTR.out).mono ?_); rintro e w2 ⟨rfl, hb2⟩; have h2 := hb.trans hb2; clear hb2)
            | (go_at_fn gf; (with_reducible refine (MA.out _ h2).mono ?_); rintro e w3 ⟨rfl, hb3⟩; have h3 := h2.trans (hb3.mono h2.size); clear hb3)
            | (go_at_call 120; (with_reducible refine (SP.out _ h3).mono ?_); rintro e w4 ⟨rfl, ⟨A4, c4, h4⟩, h5⟩; have H4 := Lib.hid h4; have c40 := CF.out _ _ _ h4; have hb4 := lt_heap h4.blk; have W4 := Lib.hid (WI.out _ _ _ h4 (HEX.out _ h3 _ h5)); clear h4)
            | (go_at_call 80; (with_reducible refine (W4.out).mono ?_); rintro e w5 ⟨v5, rfl, ho5, h6⟩; have PT := Lib.hid (StAt.filed H4.out h6 ho5 hb4); obtain ⟨vA, vn, vc, rfl⟩ := own_form ho5; have c50 : w5.cell? ⟨b, 0, none⟩ = some (.slice A4 s.files.length c4) := (h6.cell (p := ⟨b, 0, none⟩) hb4).trans c40; have f50 : w5.frozen? ⟨b, 0, none⟩ = false := frozen_heap (heap_below h6 hb4 H4.out.blk) 0; clear ho5))
          go_end0
          refine E2.out _ h3 _ h5 _ _ ⟨rfl, ?_, ((BelowX.of h6).setX (p := ⟨b, 0, none⟩) rfl _)⟩
          rw [LAY.out]
          exact PT.out
        · have LAY : Hid (lay withF p m s1 = fail (withF s.files p m).2 p s1) := Lib.hid (by
            unfold lay
            rw [hsf, if_pos he])
          clear hsf
          generalize (withF s.files p m).2 = er at *
          have he2 : (er != 0) = true := by simpa using he
          go_wp2_with (first
            | (go_at_call 111; (with_reducible refine (BSTR.out).mono ?_); rintro e w2 ⟨rfl, hb2⟩; have h2 := hb.trans hb2; clear hb2)
            | (go_at_fn gf; (with_reducible refine (MA.out _ h2).mono ?_); rintro e w3 ⟨rfl, hb3⟩; have h3 := h2.trans (hb3.mono h2.size); clear hb3)
            | (go_at_call 120; (with_reducible refine (SP.out _ h3).mono ?_); rintro e w4 ⟨rfl, ⟨A4, c4, h4⟩, h5⟩; have H4 := Lib.hid h4; have c40 := CF.out _ _ _ h4; have hb4 := lt_heap h4.blk; have W4 := Lib.hid (WI.out _ _ _ h4 (HEX.out _ h3 _ h5)); clear h4)
            | (go_at_call 80; (with_reducible refine (W4.out).mono ?_); rintro e w5 ⟨v5, rfl, ho5, h6⟩; have FA := Lib.hid (fail_any (H4.out.keep h6) er p); clear ho5)
            | (go_at_call 170; (with_reducible refine (FA.out).mono ?_); rintro e w6 ⟨rfl, h7, h8⟩))
          go_end0
          refine E2.out _ h3 _ h5 _ _ (Went.after (.of h6) ⟨rfl, ?_, h8⟩)
          rw [LAY.out]
          exact h7
end Go.Proofs.YtdidnlkilleljaaGreatDoor.Bx
/- BxWithoutW, what a claim needs of it (prune.py). -/
namespace Go.Proofs.YtdidnlkilleljaaGreatDoor.Bx
open Go.RowKit
open Fs (fc fc_len Fls FilesOwn B belowB rest)
set_option linter.unusedVariables false
set_option maxRecDepth 100000
theorem without1_any (a d s : ByteArray) (Bk : Nat) (W : World) (hs : s.size ≤ 1000000000) (hB : Bk < W.heap.size) (hc : W.cell? ⟨Bk, 0, none⟩ = some (.string s)) :
    Calls Tryz.prog 222 #[.agg #[.string a, .string d], .pointer (some ⟨Bk, 0, none⟩)] W fun e w' => e = .returned (.bool ((belowB (tl a) (tl s)).isSome || decide (tl a = tl s))) ∧ Below W.heap.size W w' := by
  have hne : Bk ≠ W.heap.size := by omega
  have BL : Hid (∀ V, Calls Tryz.prog 67 #[.string a, .string s] V fun e w' => e = .returned (.tuple #[.string (bs (rest (tl a) (tl s))), .bool (belowB (tl a) (tl s)).isSome]) ∧ V = w') := Lib.hid fun V => Fs.below_any a s hs V
  generalize bs (rest (tl a) (tl s)) = r at *
  by_cases h : a = s
  · have F : Hid (((belowB (tl a) (tl s)).isSome || decide (tl a = tl s)) = true) := Lib.hid (by rw [h]; simp)
    have g : (a.toList == s.toList) = true := by rw [h]; simp
    clear h
    generalize (belowB (tl a) (tl s)).isSome = x at *
    cases x
    all_goals
      go_enter Tryz.func222, Tryz.ntmps222
      go_wp2_with (go_at_call 67; (with_reducible refine (BL.out _).mono ?_); rintro e w1 ⟨rfl, rfl⟩)
      go_ret
      exact ⟨Lg.ret_bool F.out, (Below.refl _ _).alloc (Nat.le_refl _) _⟩
  · have F : Hid (decide (tl a = tl s) = false) := Lib.hid (decide_eq_false fun e => h (Lg.tl_inj e))
    have g := Lg.s_ne h
    clear h
    generalize (belowB (tl a) (tl s)).isSome = x at *
    cases x
    all_goals
      go_enter Tryz.func222, Tryz.ntmps222
      go_wp2_with (go_at_call 67; (with_reducible refine (BL.out _).mono ?_); rintro e w1 ⟨rfl, rfl⟩)
      go_ret
      exact ⟨Lg.ret_bool (by rw [F.out]; rfl), (Below.refl _ _).alloc (Nat.le_refl _) _⟩
theorem without_any (A : Option Addr) (l : List Fl) (c : Nat) (p : ByteArray) (w : World) (hr : Fls w A l) (hl : l.length ≤ 900) (hp : p.size ≤ 1000000000) :
    Calls Tryz.prog 172 #[.slice A l.length c, .string p] w (FilesOwn (withoutF l (tl p)) w) := by
  obtain ⟨W1, eW⟩ : ∃ W1, W1 = w.alloc (.cells #[.string p] 9) := ⟨_, rfl⟩
  have hb1 : Below w.heap.size w W1 := by rw [eW]; exact (Below.refl _ _).alloc (Nat.le_refl _) _
  have hz1 : W1.heap.size = w.heap.size + 1 := by rw [eW]; simp
  have q0 : W1.heap[w.heap.size]? = some (.cells #[.string p] 9 (0, 0)) := by rw [eW]; exact heap_alloc_new w _
  have hw1 := hb1.size
  have CL := Lib.hid (clone_any A l c W1 ((hr.below hb1).more hw1) (by omega))
  have DE : Hid (∀ v W, W.ownsRow W1.heap.size 49 2 v l.length (fc l) → Below W1.heap.size W1 W → Calls Tryz.prog 221 #[v, .func (.func 222) #[] #[.pointer (some ⟨w.heap.size, 0, none⟩)]] W (DelSays W1.heap.size (withoutF l (tl p)) W)) := Lib.hid fun v W ho hb =>
    delete_any 222 #[.pointer (some ⟨w.heap.size, 0, none⟩)] (enters_of Tryz.func222 (by kernel_rfl) rfl) (fun f => (belowB (tl f.p) (tl p)).isSome || decide (tl f.p = tl p)) W1.heap.size v l W ho hb.size (by omega)
      (fun f hf V hV => without1_any f.p f.d p w.heap.size V hp (by have := hV.size; have := hb.size; omega) ((cell_heap (heap_below (hb.trans hV) (lt_heap q0) q0) 0).trans rfl))
  have hmf : ∀ (fn : Fn) (first cap : Array Value) (w : World), (Instr.makeFunc fn first cap).run Tryz.prog w = .ok (.func fn first cap) w := fun _ _ _ _ => rfl
  have EN : Hid (∀ v W, W.ownsRow W1.heap.size 49 2 v (withoutF l (tl p)).length (fc (withoutF l (tl p))) → Below W1.heap.size W1 W → FilesOwn (withoutF l (tl p)) w (.returned v) W) := Lib.hid fun v W h hb => ⟨v, rfl, own_low h hw1, hb1.trans (hb.mono hw1)⟩
  clear hr hp hl hb1 q0 hz1
  generalize FilesOwn (withoutF l (tl p)) w = Q at *
  go_enter Tryz.func172, Tryz.ntmps172
  go_wp2_with (first
    | (go_at_call 136; rw [← eW]; clear eW; (with_reducible refine (CL.out).mono ?_); rintro e w2 ⟨v2, rfl, ho2, hb2⟩; have HO := Lib.hid ho2; clear ho2)
    | (go_at_call 221; (with_reducible refine (DE.out _ _ HO.out hb2).mono ?_); rintro e w3 ⟨v3, rfl, ho3, hb3⟩; have HO3 := Lib.hid ho3; clear ho3))
  exact EN.out _ _ HO3.out (hb2.trans hb3)
end Go.Proofs.YtdidnlkilleljaaGreatDoor.Bx
/- BxHas, what a claim needs of it (prune.py). -/
namespace Go.Proofs.YtdidnlkilleljaaGreatDoor.Bx
open Go.RowKit
open Lg (Lies strV)
open Fs (B idx NoneTo idx_hit idx_miss idx_any)
set_option linter.unusedVariables false
set_option maxRecDepth 100000
theorem index_any (A : Option Addr) (l : List B) (c : Nat) (q : B) (w : World) (hr : Reads w w.heap.size 1 A l.length (strV l)) (hl : l.length ≤ 1000000000) :
    Calls Tryz.prog 141 #[.slice A l.length c, .string (bs q)] w fun e w' => e = .returned (.int .i64 (idx (fun x => decide (x = q)) l)) ∧ w = w' := by
  have RD := Lib.hid hr
  clear hr
  go_enter Tryz.func141, Tryz.ntmps141
  go_wp2_with (fail)
  go_loop [8] (fun i => ∃ k : Nat, i = .int .i64 k ∧ k ≤ l.length ∧ Hid (NoneTo (fun x => decide (x = q)) l k)) (fun i => l.length - (intOf i).toNat)
  case atStart => exact ⟨0, rfl, by omega, Lib.hid (NoneTo.zero _ _)⟩
  case round =>
    obtain ⟨k, rfl, hk, HN⟩ := hrel
    by_cases hlt : k < l.length
    · have hkI : (k : Int) < (l.length : Int) := by omega
      obtain ⟨ad, u, rfl, had, hue, c1⟩ := RD.out.at_ hlt
      have hue' : u = .string (bs l[k]) := by
        rw [List.getElem?_map, List.getElem?_eq_getElem hlt] at hue
        exact (Option.some.inj hue).symm
      subst hue'
      clear hue
      by_cases h : l[k] = q
      · have F := Lib.hid (idx_hit hlt HN.out (decide_eq_true h))
        have g : ((bs q).toList == (bs l[k]).toList) = true := by rw [h]; simp
        have g2 : ((bs l[k]).toList == (bs q).toList) = true := by rw [h]; simp
        clear h
        generalize bs l[k] = x at *
        go_wp2_with (fail)
        go_ret
        exact ⟨Lg.ret_int F.out, rfl⟩
      · have F := Lib.hid (HN.out.next hlt (decide_eq_false h))
        have g : ((bs l[k]).toList == (bs q).toList) = false := Lg.s_ne (fun e => h (by have := congrArg tl e; exact this))
        have g2 : ((bs q).toList == (bs l[k]).toList) = false := Lg.s_ne (fun e => h (by have := congrArg tl e; exact this.symm))
        clear h
        generalize bs l[k] = x at *
        go_wp2_with (fail)
        go_round
        case rel => exact ⟨k + 1, by go_num, by omega, F⟩
        case measure => simp [intOf]; omega
    · obtain rfl : k = l.length := by omega
      have F := Lib.hid (idx_miss HN.out)
      go_wp2_with (fail)
      go_ret
      exact ⟨Lg.ret_int F.out, rfl⟩
theorem any_mem (l : List B) (q : B) : (l.any fun x => decide (x = q)) = decide (q ∈ l) := by
  rw [Bool.eq_iff_iff]
  simp
theorem contains_any (A : Option Addr) (l : List B) (c : Nat) (q : B) (w : World) (hr : Reads w w.heap.size 1 A l.length (strV l)) (hl : l.length ≤ 1000000000) :
    Calls Tryz.prog 173 #[.slice A l.length c, .string (bs q)] w fun e w' => e = .returned (.bool (decide (q ∈ l))) ∧ w = w' := by
  have IX := Lib.hid (index_any A l c q w hr hl)
  have F := Lib.hid ((idx_any (fun x => decide (x = q)) l).trans (any_mem l q))
  generalize idx (fun x => decide (x = q)) l = r at *
  clear hr
  go_enter Tryz.func173, Tryz.ntmps173
  go_wp2_with (go_at_call 141; (with_reducible refine (IX.out).mono ?_); rintro e w1 ⟨rfl, rfl⟩)
  go_ret
  exact ⟨by rw [← F.out]; rfl, rfl⟩
end Go.Proofs.YtdidnlkilleljaaGreatDoor.Bx
/- BxSteps, what a claim needs of it (prune.py). -/
namespace Go.Proofs.YtdidnlkilleljaaGreatDoor.Bx
open Lg (Stp pathOk nameOk textOk stepW stepOf blk bk parse Res)
open Fs (B)
set_option linter.unusedVariables false
def StepR (o : Int) (a : List B) : Prop :=
  (o = 1 ∧ a.length = 2 ∧ (a.take 1).all pathOk = true ∧ (a.drop 1).all textOk = true) ∨ (o = 2 ∧ a.length = 2 ∧ a.all pathOk = true) ∨ (o = 3 ∧ 2 ≤ a.length ∧ a.length ≤ 8 ∧ a.all pathOk = true) ∨
  ((o = 4 ∨ o = 5 ∨ o = 6 ∨ o = 10) ∧ a.length = 1 ∧ a.all pathOk = true) ∨ (o = 7 ∧ a.length = 1 ∧ a.all nameOk = true) ∨ (o = 8 ∧ a.length = 1 ∧ a.all textOk = true) ∨ (o = 9 ∧ a = [])
def rightS : List Stp → Prop
  | [] => True
  | ⟨o, a, n, b⟩ :: r => StepR o a ∧ rightS b ∧ rightS r
theorem rightS_app : ∀ {l m : List Stp}, rightS l → rightS m → rightS (l ++ m)
  | [], m, _, h => h
  | ⟨o, a, n, b⟩ :: r, m, h, k => by
    rw [rightS] at h
    rw [List.cons_append, rightS]
    exact ⟨h.1, h.2.1, rightS_app h.2.2 k⟩
theorem stepW_right : ∀ {ws : List B} {o : Int} {a : List B} {n : Int}, stepW ws = some (o, a, n) → StepR o a
  | [], o, a, n, h => by cases h
  | w :: xs, o, a, n, h => by
    unfold stepW at h
    dsimp only at h
    by_cases w1 : w = [112, 117, 116]
    · rw [if_pos w1] at h
      split at h
      · next c => simp only [Option.some.injEq, Prod.mk.injEq] at h; obtain ⟨rfl, rfl, _⟩ := h; exact .inl ⟨rfl, c⟩
      · cases h
    rw [if_neg w1] at h
    by_cases w2 : w = [99, 111, 112, 121]
    · rw [if_pos w2] at h
      split at h
      · next c => simp only [Option.some.injEq, Prod.mk.injEq] at h; obtain ⟨rfl, rfl, _⟩ := h; exact .inr (.inl ⟨rfl, c⟩)
      · cases h
    rw [if_neg w2] at h
    by_cases w3 : w = [99, 97, 116]
    · rw [if_pos w3] at h
      split at h
      · next c => simp only [Option.some.injEq, Prod.mk.injEq] at h; obtain ⟨rfl, rfl, _⟩ := h; exact .inr (.inr (.inl ⟨rfl, c⟩))
      · cases h
    rw [if_neg w3] at h
    by_cases w4 : w = [117, 112, 112, 101, 114]
    · rw [if_pos w4] at h
      split at h
      · next c => simp only [Option.some.injEq, Prod.mk.injEq] at h; obtain ⟨rfl, rfl, _⟩ := h; exact .inr (.inr (.inr (.inl ⟨.inl rfl, c⟩)))
      · cases h
    rw [if_neg w4] at h
    by_cases w5 : w = [115, 111, 114, 116]
    · rw [if_pos w5] at h
      split at h
      · next c => simp only [Option.some.injEq, Prod.mk.injEq] at h; obtain ⟨rfl, rfl, _⟩ := h; exact .inr (.inr (.inr (.inl ⟨.inr (.inl rfl), c⟩)))
      · cases h
    rw [if_neg w5] at h
    by_cases w6 : w = [100, 114, 111, 112]
    · rw [if_pos w6] at h
      split at h
      · next c => simp only [Option.some.injEq, Prod.mk.injEq] at h; obtain ⟨rfl, rfl, _⟩ := h; exact .inr (.inr (.inr (.inl ⟨.inr (.inr (.inl rfl)), c⟩)))
      · cases h
    rw [if_neg w6] at h
    by_cases w7 : w = [110, 101, 101, 100]
    · rw [if_pos w7] at h
      split at h
      · next c => simp only [Option.some.injEq, Prod.mk.injEq] at h; obtain ⟨rfl, rfl, _⟩ := h; exact .inr (.inr (.inr (.inr (.inl ⟨rfl, c⟩))))
      · cases h
    rw [if_neg w7] at h
    by_cases w8 : w = [102, 97, 105, 108]
    · rw [if_pos w8] at h
      split at h
      · next c => simp only [Option.some.injEq, Prod.mk.injEq] at h; obtain ⟨rfl, rfl, _⟩ := h; exact .inr (.inr (.inr (.inr (.inr (.inl ⟨rfl, c⟩)))))
      · cases h
    rw [if_neg w8] at h
    by_cases w9 : w = [108, 111, 111, 112]
    · rw [if_pos w9] at h
      split at h
      · split at h
        · simp only [Option.some.injEq, Prod.mk.injEq] at h; obtain ⟨rfl, rfl, _⟩ := h; exact .inr (.inr (.inr (.inr (.inr (.inr ⟨rfl, rfl⟩)))))
        · cases h
      · cases h
    rw [if_neg w9] at h
    by_cases w10 : w = [105, 102]
    · rw [if_pos w10] at h
      split at h
      · next c => simp only [Option.some.injEq, Prod.mk.injEq] at h; obtain ⟨rfl, rfl, _⟩ := h; exact .inr (.inr (.inr (.inl ⟨.inr (.inr (.inr rfl)), c⟩)))
      · cases h
    rw [if_neg w10] at h
    cases h
theorem rightS_one {o n : Int} {a : List B} {b : List Stp} (h : StepR o a) (hb : rightS b) : rightS [⟨o, a, n, b⟩] := by
  rw [rightS, rightS]; exact ⟨h, hb, trivial⟩
theorem rightS_nil : rightS [] := by rw [rightS]; trivial
theorem blk_right : ∀ (f deep : Nat) (out : List Stp) (lines : List B) (o : List Stp) (r : List B), rightS out → blk f deep out lines = .ok o r → rightS o
  | 0, _, _, _, _, _, _, h => by cases h
  | f + 1, deep, out, [], o, r, ho, h => by
    unfold blk at h
    split at h
    · cases h
    · cases h; exact ho
  | f + 1, deep, out, line :: rest, o, r, ho, h => by
    unfold blk at h
    split at h
    · split at h
      · cases h; exact ho
      · cases h
    · split at h
      · cases h
      · next e =>
        have hs := stepW_right e
        split at h
        · split at h
          · cases h
          · split at h
            · cases h
            · next e2 =>
              have h1 := blk_right f _ [] _ _ _ rightS_nil e2
              exact blk_right f _ _ _ _ _ (rightS_app ho (rightS_one hs h1)) h
        · exact blk_right f _ _ _ _ _ (rightS_app ho (rightS_one hs rightS_nil)) h
theorem parse_right {cmd : B} : rightS (parse cmd).1 := by
  unfold parse
  split
  · exact rightS_nil
  split
  · exact rightS_nil
  split
  · exact rightS_nil
  split
  · exact rightS_nil
  cases e : bk 0 [] (Lg.splitB 10 cmd.dropLast) with
  | ok out r => exact blk_right _ _ _ _ _ _ rightS_nil e
  | err k => exact rightS_nil
end Go.Proofs.YtdidnlkilleljaaGreatDoor.Bx
