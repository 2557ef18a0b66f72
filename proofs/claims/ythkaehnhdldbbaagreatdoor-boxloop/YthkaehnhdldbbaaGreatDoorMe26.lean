/- Joined by mkmerged.py: BxState, BxFine. -/
import Derived.Test.YthkaehnhdldbbaaGreatDoorMe22
import Derived.Test.YthkaehnhdldbbaaGreatDoorMe25
import Derived.Test.YthkaehnhdldbbaaGreatDoorMe05
import Derived.Test.YthkaehnhdldbbaaGreatDoorMe24
/- BxState, what a claim needs of it (prune.py). -/
namespace Go.Proofs.YthkaehnhdldbbaaGreatDoor.Bx
open Go.RowKit
open Lg (BelowX Lies)
open Fs (fc fc_len fc_cell Fls Env B)
set_option linter.unusedVariables false
set_option maxRecDepth 100000
def stc (A : Option Addr) (c : Nat) (N : Option Addr) (nn nc fu : Nat) (s : St) : Array Value :=
  #[.slice A s.files.length c, .slice N nn nc, .int .i64 fu, .int .i64 s.kind, .slice none 0 0, .string (bs s.need), .int .i64 s.err, .string (bs s.text), .int .i64 s.used]
structure StAt (w : World) (b fu : Nat) (N : Option Addr) (nn nc : Nat) (A : Option Addr) (c : Nat) (s : St) : Prop where
  blk : w.heap[b]? = some (.cells (stc A c N nn nc fu s) 68 (0, 0))
  fls : Lies w (fun k => k ≠ b) 2 A s.files.length (fc s.files)
  cap : s.files.length ≤ c
def StM (w : World) (b fu : Nat) (N : Option Addr) (nn nc : Nat) (s : St) : Prop := ∃ A c, StAt w b fu N nn nc A c s
theorem StAt.flsr {w : World} {b fu : Nat} {N A : Option Addr} {nn nc c : Nat} {s : St} (h : StAt w b fu N nn nc A c s) : Fls w A s.files := h.fls.reads (by decide)
theorem StAt.keep {w w' : World} {b fu : Nat} {N A : Option Addr} {nn nc c : Nat} {s : St} (h : StAt w b fu N nn nc A c s) (hb : Below w.heap.size w w') : StAt w' b fu N nn nc A c s :=
  ⟨heap_below hb (lt_heap h.blk) h.blk, h.fls.mono (by decide) fun k hk hs => ⟨hk, hb.block k hs⟩, h.cap⟩
theorem StAt.set {w w' : World} {b fu : Nat} {N A : Option Addr} {nn nc c : Nat} {s s' : St} (h : StAt w b fu N nn nc A c s) (hf : s'.files = s.files) (hb : w'.heap[b]? = some (.cells (stc A c N nn nc fu s') 68 (0, 0))) (hk : ∀ k, k ≠ b → w'.heap[k]? = w.heap[k]?) : StAt w' b fu N nn nc A c s' :=
  ⟨hb, by rw [hf]; exact h.fls.mono (by decide) fun k hk' _ => ⟨hk', hk k hk'⟩, by rw [hf]; exact h.cap⟩
theorem set3 {b : Nat} {i j k : Nat} {u v x : Value} (w : World) : BelowX w.heap.size b w (((w.setCell ⟨b, i, none⟩ u).setCell ⟨b, j, none⟩ v).setCell ⟨b, k, none⟩ x) :=
  (((BelowX.refl _ b _).setX (p := ⟨b, i, none⟩) rfl _).setX (p := ⟨b, j, none⟩) rfl _).setX (p := ⟨b, k, none⟩) rfl _
theorem set3_ne {b g : Nat} {i j k : Nat} {u v x : Value} (w : World) (h : g ≠ b) : (((w.setCell ⟨b, i, none⟩ u).setCell ⟨b, j, none⟩ v).setCell ⟨b, k, none⟩ x).heap[g]? = w.heap[g]? := by
  rw [heap_set_ne h.symm, heap_set_ne h.symm, heap_set_ne h.symm]
theorem over_any {w : World} {b fu : Nat} {N A : Option Addr} {nn nc c : Nat} {s : St} (h : StAt w b fu N nn nc A c s) :
    Calls Tryz.prog 33 #[.pointer (some ⟨b, 0, none⟩)] w fun e w' => e = .returned (.bool (over s)) ∧ w = w' := by
  have c3 : w.cell? ⟨b, 3, none⟩ = some (.int .i64 s.kind) := (cell_heap h.blk 3).trans rfl
  have hlt := lt_heap h.blk
  clear h
  by_cases hk : s.kind = 0
  · have F : Hid (over s = false) := Lib.hid (by unfold over; simp [hk])
    have n1 : ((s.kind : Int) != 0) = false := by simp [hk]
    have n2 : (s.kind : Int) = 0 := by omega
    clear hk
    generalize (s.kind : Int) = q at *
    go_enter Tryz.func33, Tryz.ntmps33
    go_wp2_with (fail)
    go_ret
    exact ⟨Lg.ret_bool F.out, rfl⟩
  · have F : Hid (over s = true) := Lib.hid (by unfold over; simp [hk])
    have n1 : ((s.kind : Int) != 0) = true := by simpa using hk
    have n2 : ¬ (s.kind : Int) = 0 := by omega
    clear hk
    generalize (s.kind : Int) = q at *
    go_enter Tryz.func33, Tryz.ntmps33
    go_wp2_with (fail)
    go_ret
    exact ⟨Lg.ret_bool F.out, rfl⟩
def Went (b fu : Nat) (N : Option Addr) (nn nc : Nat) (w : World) (s' : St) (e : Ending) (w' : World) : Prop := e = .returned (.tuple #[]) ∧ StM w' b fu N nn nc s' ∧ BelowX w.heap.size b w w'
theorem fail_any {w : World} {b fu : Nat} {N A : Option Addr} {nn nc c : Nat} {s : St} (h : StAt w b fu N nn nc A c s) (e : Int) (t : B) :
    Calls Tryz.prog 173 #[.pointer (some ⟨b, 0, none⟩), .int .i64 e, .string (bs t)] w (Went b fu N nn nc w (fail e t s)) := by
  have c3 : w.cell? ⟨b, 3, none⟩ = some (.int .i64 s.kind) := (cell_heap h.blk 3).trans rfl
  have c6 : w.cell? ⟨b, 6, none⟩ = some (.int .i64 s.err) := (cell_heap h.blk 6).trans rfl
  have c7 : w.cell? ⟨b, 7, none⟩ = some (.string (bs s.text)) := (cell_heap h.blk 7).trans rfl
  have f3 := frozen_heap h.blk 3
  have f6 := frozen_heap h.blk 6
  have f7 := frozen_heap h.blk 7
  have hlt := lt_heap h.blk
  have EN : Hid (Went b fu N nn nc w (fail e t s) (.returned (.tuple #[])) (((w.setCell ⟨b, 3, none⟩ (.int .i64 3)).setCell ⟨b, 6, none⟩ (.int .i64 e)).setCell ⟨b, 7, none⟩ (.string (bs t)))) := Lib.hid
    ⟨rfl, ⟨A, c, h.set rfl ((heap_set (heap_set (heap_set h.blk))).trans rfl) (fun k hk => set3_ne w hk)⟩, set3 w⟩
  clear h
  generalize Went b fu N nn nc w (fail e t s) = Q at *
  go_enter Tryz.func173, Tryz.ntmps173
  go_wp2_with (fail)
  go_end0
  exact EN.out
def Spent (b fu : Nat) (N : Option Addr) (nn nc : Nat) (w : World) (s' : St) (ok : Bool) (e : Ending) (w' : World) : Prop := e = .returned (.bool ok) ∧ StM w' b fu N nn nc s' ∧ BelowX w.heap.size b w w'
theorem StAt.drewN {w : World} {b fu : Nat} {N A : Option Addr} {nn nc c : Nat} {s : St} (h : StAt w b fu N nn nc A c s) (n : Nat) : StAt (w.drewN n) b fu N nn nc A c s := ⟨h.blk, h.fls, h.cap⟩
theorem spend_yes {w : World} {b fu : Nat} {N A : Option Addr} {nn nc c : Nat} {s : St} (h : StAt w b fu N nn nc A c s) (n : Nat) (hn : ¬ fu < s.used + n) (hfu : fu ≤ 2000) :
    Calls Tryz.prog 123 #[.pointer (some ⟨b, 0, none⟩), .int .i64 n] w (Spent b fu N nn nc w { s with used := s.used + n } true) := by
  have c2 : w.cell? ⟨b, 2, none⟩ = some (.int .i64 fu) := (cell_heap h.blk 2).trans rfl
  have c8 : w.cell? ⟨b, 8, none⟩ = some (.int .i64 s.used) := (cell_heap h.blk 8).trans rfl
  have f8 := frozen_heap h.blk 8
  have hlt := lt_heap h.blk
  have EN : Hid (∀ k, Spent b fu N nn nc w { s with used := s.used + n } true (.returned (.bool true)) ((w.drewN k).setCell ⟨b, 8, none⟩ (.int .i64 ((s.used + n : Nat) : Int)))) := Lib.hid fun k =>
    ⟨rfl, ⟨A, c, (h.drewN k).set (s' := { s with used := s.used + n }) rfl ((heap_set (w := w.drewN k) h.blk).trans rfl) (fun g hg => heap_set_ne hg.symm)⟩, ((BelowX.refl _ b _).drewN k).setX (p := ⟨b, 8, none⟩) rfl _⟩
  clear h
  generalize Spent b fu N nn nc w { s with used := s.used + n } true = Q at *
  generalize s.used = u at *
  have i1 : IntKind.i64.wrap ((fu : Int) - (u : Int)) = (fu : Int) - (u : Int) := IntWalk.i64_in _ (by omega)
  have i2 : ¬ (fu : Int) - (u : Int) < (n : Int) := by omega
  have i3 : decide ((fu : Int) - (u : Int) < (n : Int)) = false := decide_eq_false i2
  have i4 : ((u + n : Nat) : Int) = (u : Int) + (n : Int) := by omega
  rw [i4] at EN
  clear i4
  have b1 : u ≤ 2000 := by omega
  have b2 : n ≤ 2000 := by omega
  go_enter Tryz.func123, Tryz.ntmps123
  go_wp2_with (fail)
  go_quiet (fail)
  go_wp2_with (fail)
  exact EN.out _
theorem spend_no {w : World} {b fu : Nat} {N A : Option Addr} {nn nc c : Nat} {s : St} (h : StAt w b fu N nn nc A c s) (n : Nat) (hn : fu < s.used + n) (hu : s.used ≤ fu) (hfu : fu ≤ 2000) (hn2 : n ≤ 100000) :
    Calls Tryz.prog 123 #[.pointer (some ⟨b, 0, none⟩), .int .i64 n] w (Spent b fu N nn nc w (dry fu s) false) := by
  have c2 : w.cell? ⟨b, 2, none⟩ = some (.int .i64 fu) := (cell_heap h.blk 2).trans rfl
  have c8 : w.cell? ⟨b, 8, none⟩ = some (.int .i64 s.used) := (cell_heap h.blk 8).trans rfl
  have f8 := frozen_heap h.blk 8
  have hlt := lt_heap h.blk
  have FA : Hid (∀ k, Calls Tryz.prog 173 #[.pointer (some ⟨b, 0, none⟩), .int .i64 34, .string ⟨#[]⟩] ((w.drewN k).setCell ⟨b, 8, none⟩ (.int .i64 fu)) (Went b fu N nn nc ((w.drewN k).setCell ⟨b, 8, none⟩ (.int .i64 fu)) (fail 34 [] { s with used := fu }))) := Lib.hid fun k =>
    fail_any (s := { s with used := fu }) ((h.drewN k).set (w' := (w.drewN k).setCell ⟨b, 8, none⟩ (.int .i64 fu)) (s' := { s with used := fu }) rfl ((heap_set (w := w.drewN k) h.blk).trans rfl) (fun g hg => heap_set_ne hg.symm)) 34 []
  have EN : Hid (∀ k w', StM w' b fu N nn nc (fail 34 [] { s with used := fu }) → BelowX ((w.drewN k).setCell ⟨b, 8, none⟩ (.int .i64 fu)).heap.size b ((w.drewN k).setCell ⟨b, 8, none⟩ (.int .i64 fu)) w' → Spent b fu N nn nc w (dry fu s) false (.returned (.bool false)) w') := Lib.hid fun k w' h1 h2 =>
    ⟨rfl, h1, (((BelowX.refl _ b _).drewN k).setX (p := ⟨b, 8, none⟩) rfl _).trans (h2.mono (by simp [World.setCell]))⟩
  clear h
  generalize Spent b fu N nn nc w (dry fu s) false = Q at *
  generalize fail 34 [] { s with used := fu } = s2 at *
  generalize s.used = u at *
  have i1 : IntKind.i64.wrap ((fu : Int) - (u : Int)) = (fu : Int) - (u : Int) := IntWalk.i64_in _ (by omega)
  have i2 : (fu : Int) - (u : Int) < (n : Int) := by omega
  have i3 : decide ((fu : Int) - (u : Int) < (n : Int)) = true := decide_eq_true i2
  go_enter Tryz.func123, Tryz.ntmps123
  go_wp2_with (fail)
  go_quiet (fail)
  go_wp2_with (go_at_call 173; (with_reducible refine (FA.out _).mono ?_); rintro e w2 ⟨rfl, h1, h2⟩)
  exact EN.out _ _ h1 h2
end Go.Proofs.YthkaehnhdldbbaaGreatDoor.Bx
/- BxFine, what a claim needs of it (prune.py). -/
namespace Go.Proofs.YthkaehnhdldbbaaGreatDoor.Bx
open Lg (Stp)
open Fs (B)
set_option linter.unusedVariables false
def needsQ (Q : B → Prop) : List Stp → Prop
  | [] => True
  | ⟨o, a, n, b⟩ :: r => (o = 7 → Q (a.getD 0 [])) ∧ needsQ Q b ∧ needsQ Q r
structure Fine (Q : B → Prop) (s : St) : Prop where
  files : RightF s.files
  shape : (s.kind = 0 ∧ s.err = 0 ∧ s.need = [] ∧ s.text = []) ∨ (s.kind = 2 ∧ s.err = 0 ∧ s.text = [] ∧ 1 ≤ s.used ∧ Q s.need) ∨ (s.kind = 3 ∧ s.err ≠ 0 ∧ s.need = [] ∧ 1 ≤ s.used)
def Keeps (Q : B → Prop) (f : St → St) : Prop := ∀ s, Fine Q s → over s = false → Fine Q (f s)
theorem Fine.zero {Q : B → Prop} {s : St} (h : Fine Q s) (ho : over s = false) : s.kind = 0 ∧ s.err = 0 ∧ s.need = [] ∧ s.text = [] := by
  have k := kind0 ho
  rcases h.shape with h | h | h
  · exact h
  · rw [k] at h; exact absurd h.1 (by decide)
  · rw [k] at h; exact absurd h.1 (by decide)
theorem fine_fail {Q : B → Prop} {s : St} {e : Int} {t : B} (h : Fine Q s) (ho : over s = false) (hu : 1 ≤ s.used) (he : e ≠ 0) : Fine Q (fail e t s) := ⟨h.files, .inr (.inr ⟨rfl, he, (h.zero ho).2.2.1, hu⟩)⟩
theorem spend_fine {Q : B → Prop} {fu n : Nat} (hf : 1 ≤ fu) (hn : 1 ≤ n) {k : St → St} (hk : ∀ s, Fine Q s → over s = false → 1 ≤ s.used → Fine Q (k s)) : Keeps Q (spend fu n k) := fun s hs ho => by
  unfold spend
  by_cases h : fu < s.used + n
  · rw [if_pos h]
    exact ⟨hs.files, .inr (.inr ⟨rfl, by show (34 : Int) ≠ 0; decide, (hs.zero ho).2.2.1, hf⟩)⟩
  · rw [if_neg h]
    exact hk _ ⟨hs.files, .inl (hs.zero ho)⟩ ho (by show 1 ≤ s.used + n; omega)
theorem loop_keeps {Q : B → Prop} {f : St → St} (hf : Keeps Q f) : ∀ n, Keeps Q (loopF f n)
  | 0 => fun s hs _ => hs
  | n + 1 => fun s hs ho => by
    have h := hf s hs ho
    rw [loopF]
    by_cases h2 : over (f s) = true
    · rw [if_pos h2]; exact h
    · rw [if_neg h2]; exact loop_keeps hf n _ h (by simpa using h2)
theorem lay_fine {Q : B → Prop} (p d : B) (s : St) (hs : Fine Q s) (ho : over s = false) (hu : 1 ≤ s.used) : Fine Q (lay withF p d s) := by
  unfold lay
  by_cases h : (withF s.files p d).2 ≠ 0
  · rw [if_pos h]; exact fine_fail hs ho hu h
  · rw [if_neg h]
    exact ⟨with_right hs.files (by simpa using h), .inl (hs.zero ho)⟩
theorem writes_keeps {Q : B → Prop} {fu : Nat} (hf : 1 ≤ fu) (p : B) (rs : List B) (mk : B → B) : Keeps Q (writes fu withF p rs mk) := fun s hs ho => by
  unfold writes
  cases reads s.files rs [] with
  | inl q => exact spend_fine hf (Nat.le_refl _) (fun s hs ho hu => fine_fail hs ho hu (by decide)) s hs ho
  | inr d => exact spend_fine hf (Nat.le_add_right _ _) (fun s hs ho hu => lay_fine _ _ s hs ho hu) s hs ho
variable {names : List B} {up so : B → B}
theorem does_keeps {Q : B → Prop} {fu : Nat} (hfu : 1 ≤ fu) (o : Int) (a : List B) (n : Int) (hq : o = 7 → Q (a.getD 0 [])) {f : St → St} (hf : Keeps Q f) : Keeps Q (does fu withF withoutF names up so o a n f) := fun s hs ho => by
  unfold does
  by_cases c1 : o = 1
  · rw [if_pos c1]; exact writes_keeps hfu _ _ _ s hs ho
  rw [if_neg c1]
  by_cases c2 : o = 2
  · rw [if_pos c2]; exact writes_keeps hfu _ _ _ s hs ho
  rw [if_neg c2]
  by_cases c3 : o = 3
  · rw [if_pos c3]; exact writes_keeps hfu _ _ _ s hs ho
  rw [if_neg c3]
  by_cases c4 : o = 4
  · rw [if_pos c4]; exact writes_keeps hfu _ _ _ s hs ho
  rw [if_neg c4]
  by_cases c5 : o = 5
  · rw [if_pos c5]; exact writes_keeps hfu _ _ _ s hs ho
  rw [if_neg c5]
  refine spend_fine hfu (Nat.le_refl _) (fun s hs ho hu => ?_) s hs ho
  by_cases c6 : o = 6
  · rw [if_pos c6]; exact ⟨without_right hs.files _, .inl (hs.zero ho)⟩
  rw [if_neg c6]
  by_cases c7 : o = 7
  · rw [if_pos c7]
    by_cases m : a.getD 0 [] ∈ names
    · rw [if_pos m]; exact hs
    · rw [if_neg m]
      have z := hs.zero ho
      exact ⟨hs.files, .inr (.inl ⟨rfl, z.2.1, z.2.2.2, hu, hq c7⟩)⟩
  rw [if_neg c7]
  by_cases c8 : o = 8
  · rw [if_pos c8]; exact fine_fail hs ho hu (by decide)
  rw [if_neg c8]
  by_cases c9 : o = 9
  · rw [if_pos c9]; exact loop_keeps hf _ s hs ho
  rw [if_neg c9]
  by_cases c10 : o = 10
  · rw [if_pos c10]
    by_cases m : (Fs.get s.files (a.getD 0 [])).isSome = true
    · rw [if_pos m]; exact hf s hs ho
    · rw [if_neg m]; exact hs
  rw [if_neg c10]
  exact hs
theorem all_keeps {Q : B → Prop} {fu : Nat} (hfu : 1 ≤ fu) : ∀ l : List Stp, needsQ Q l → Keeps Q (all fu withF withoutF names up so l)
  | [], _ => fun s hs _ => by rw [all]; exact hs
  | ⟨o, a, n, b⟩ :: r, h => fun s hs ho => by
    rw [needsQ] at h
    have hb := all_keeps (Q := Q) hfu b h.2.1
    have hr := all_keeps (Q := Q) hfu r h.2.2
    rw [all, if_neg (by rw [ho]; simp)]
    have h1 := does_keeps (names := names) (up := up) (so := so) hfu o a n h.1 hb s hs ho
    by_cases h2 : over (does fu withF withoutF names up so o a n (all fu withF withoutF names up so b) s) = true
    · rw [(all_fair fu r).over _ h2]; exact h1
    · exact hr _ h1 (by simpa using h2)
theorem run_fine {Q : B → Prop} {fu : Nat} (hfu : 1 ≤ fu) {l : List Stp} (hq : needsQ Q l) {fs : List Fl} (h : RightF fs) : Fine Q (run withF withoutF names up so fu l fs) := all_keeps hfu l hq (start fs) ⟨h, .inl ⟨rfl, rfl, rfl, rfl⟩⟩ rfl
end Go.Proofs.YthkaehnhdldbbaaGreatDoor.Bx
