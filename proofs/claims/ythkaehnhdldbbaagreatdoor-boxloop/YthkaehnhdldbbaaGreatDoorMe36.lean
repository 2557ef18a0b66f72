/- Joined by mkmerged.py: BxFew, BxCame, BxOutL, BxLaw9. -/
import Derived.Test.YthkaehnhdldbbaaGreatDoorMe32
import Derived.Test.YthkaehnhdldbbaaGreatDoorMe13
import Derived.Test.YthkaehnhdldbbaaGreatDoorMe21
import Derived.Test.YthkaehnhdldbbaaGreatDoorMe33
import Derived.Deep.Cut
import Derived.Test.YthkaehnhdldbbaaGreatDoorMe34
import Derived.Test.YthkaehnhdldbbaaGreatDoorMe28
/- BxFew, what a claim needs of it (prune.py). -/
namespace Go.Proofs.YthkaehnhdldbbaaGreatDoor.Bx
open Go.RowKit
open Lg (BelowX Lies strV StepsAt Stp numL smallL weight SmSays)
open Fs (fc fc_len fc_cell Fls B)
set_option linter.unusedVariables false
set_option maxRecDepth 100000
structure FewB (l : List Stp) (fs : List Fl) (names : Nat) : Prop where
  w : weight l ≤ 300
  s : smallL l
  fl : fs.length ≤ 60
  nl : names ≤ 30
  fz : ∀ f ∈ fs, f.p.size ≤ 100 ∧ f.d.size ≤ 3000
def ShortTo (fs : List Fl) (k : Nat) : Prop := ∀ j (hj : j < fs.length), j < k → fs[j].p.size ≤ 100 ∧ fs[j].d.size ≤ 3000
theorem ShortTo.next {fs : List Fl} {k : Nat} (hk : k < fs.length) (h : ShortTo fs k) (h1 : fs[k].p.size ≤ 100) (h2 : fs[k].d.size ≤ 3000) : ShortTo fs (k + 1) := fun j hj hjk => by
  rcases Nat.lt_or_ge j k with h3 | h3
  · exact h j hj h3
  · obtain rfl : j = k := by omega
    exact ⟨h1, h2⟩
end Go.Proofs.YthkaehnhdldbbaaGreatDoor.Bx
/- BxCame, what a claim needs of it (prune.py). -/
namespace Go.Proofs.YthkaehnhdldbbaaGreatDoor.Bx
open Go.RowKit
open Lg (BelowX Lies strV StepsAt Stp numL smallL weight rightE)
open Fs (fc fc_len fc_cell Fls B checkE)
set_option linter.unusedVariables false
set_option maxRecDepth 100000
structure Came (w : World) (l : List Stp) (L : Option Addr) (m mc : Nat) (fs : List Fl) (F : Option Addr) (fcc : Nat) (names : List B) (N : Option Addr) (nn nc : Nat) (ok : Nat → Prop) : Prop where
  env : Lg.Env w
  steps : StepsAt w ok L m l
  num : numL l
  files : Fls w F fs
  fcap : fs.length ≤ fcc
  flen : fs.length ≤ maxLen
  fz : ∀ f ∈ fs, f.p.size ≤ maxLen ∧ f.d.size ≤ maxLen
  nms : Reads w w.heap.size 1 N nn (strV names)
  nml : nn = names.length
  nlen : nn ≤ maxLen
theorem Came.below {w W : World} {l : List Stp} {L : Option Addr} {m mc : Nat} {fs : List Fl} {F : Option Addr} {fcc : Nat} {names : List B} {N : Option Addr} {nn nc : Nat} {ok : Nat → Prop} (h : Came w l L m mc fs F fcc names N nn nc ok) (hb : Below w.heap.size w W) : Came W l L m mc fs F fcc names N nn nc ok :=
  ⟨h.env.below hb, h.steps.mono fun k hk hs => ⟨hk, hb.block k hs⟩, h.num, (h.files.below hb).more hb.size, h.fcap, h.flen, h.fz, (h.nms.below hb).more hb.size, h.nml, h.nlen⟩
theorem Came.run {w : World} {l : List Stp} {L : Option Addr} {m mc : Nat} {fs : List Fl} {F : Option Addr} {fcc : Nat} {names : List B} {N : Option Addr} {nn nc : Nat} {ok : Nat → Prop} (h : Came w l L m mc fs F fcc names N nn nc ok) {k : Nat} (hf : FewB l fs k) (hk : nn ≤ 1000000) (fuel : Int) :
    Calls Tryz.prog 13 #[.slice L m mc, .slice F fs.length fcc, .slice N nn nc, .int .i64 fuel] w (RunSays (outcome l fs names fuel) w) :=
  run_any l L m mc fs F fcc names N nn nc fuel w ok h.env h.steps h.num (by have := Lg.print_small hf.s h.num; have := hf.w; omega) h.files (by have := hf.fl; omega) h.fcap h.fz h.nms h.nml (by have := h.nml; omega)
theorem RunSays.open_ {o : Out} {w : World} {e : Ending} {w' : World} (h : RunSays o w e w') : ∃ A c, e = .returned (.agg #[.int .i64 o.kind, .slice A o.files.length c, .string (bs o.need), .int .i64 o.err, .string (bs o.text), .int .i64 o.used]) ∧ Fls w' A o.files ∧ o.files.length ≤ c ∧ Below w.heap.size w w' := h
end Go.Proofs.YthkaehnhdldbbaaGreatDoor.Bx
/- BxOutL, what a claim needs of it (prune.py). -/
namespace Go.Proofs.YthkaehnhdldbbaaGreatDoor.Bx
open Go.RowKit
open Lg (BelowX Lies strV StepsAt Stp numL smallL weight rightE)
open Fs (fc fc_len fc_cell Fls B checkE)
set_option linter.unusedVariables false
set_option maxRecDepth 100000
theorem outcome_good {l : List Stp} {fs : List Fl} {names : List B} {f : Int} (h1 : rightE l = 0) (h2 : checkE fs = 0) (hf : 1 ≤ f ∧ f ≤ 2000) : outcome l fs names f = ended (run withF withoutF names upB soB f.toNat l fs) := by
  unfold outcome
  rw [if_neg (by simp [h1]), if_neg (by omega)]
end Go.Proofs.YthkaehnhdldbbaaGreatDoor.Bx
/- BxLaw9, what a claim needs of it (prune.py). -/
namespace Go.Proofs.YthkaehnhdldbbaaGreatDoor.Bx
open Go.RowKit
open Lg (BelowX Lies strV StepsAt RowAt Stp numL rightE print parse)
open Fs (fc fc_len fc_cell Fls B checkE)
set_option linter.unusedVariables false
set_option maxRecDepth 100000
def loopC (ds : B) : B := [112, 117, 116, 32, 108, 32, 120, 10, 108, 111, 111, 112, 32] ++ ds ++ [10, 99, 97, 116, 32, 109, 32, 108, 32, 111, 117, 116, 47, 102, 10, 99, 111, 112, 121, 32, 109, 32, 111, 117, 116, 47, 102, 10, 101, 110, 100, 10]
theorem loop_parse : ∀ n : Nat, n ≤ 40 → ∃ cmd, parse cmd = (looped n, 0)
  | 0, _ => ⟨loopC [48], by kernel_rfl⟩
  | 1, _ => ⟨loopC [49], by kernel_rfl⟩
  | 2, _ => ⟨loopC [50], by kernel_rfl⟩
  | 3, _ => ⟨loopC [51], by kernel_rfl⟩
  | 4, _ => ⟨loopC [52], by kernel_rfl⟩
  | 5, _ => ⟨loopC [53], by kernel_rfl⟩
  | 6, _ => ⟨loopC [54], by kernel_rfl⟩
  | 7, _ => ⟨loopC [55], by kernel_rfl⟩
  | 8, _ => ⟨loopC [56], by kernel_rfl⟩
  | 9, _ => ⟨loopC [57], by kernel_rfl⟩
  | 10, _ => ⟨loopC [49, 48], by kernel_rfl⟩
  | 11, _ => ⟨loopC [49, 49], by kernel_rfl⟩
  | 12, _ => ⟨loopC [49, 50], by kernel_rfl⟩
  | 13, _ => ⟨loopC [49, 51], by kernel_rfl⟩
  | 14, _ => ⟨loopC [49, 52], by kernel_rfl⟩
  | 15, _ => ⟨loopC [49, 53], by kernel_rfl⟩
  | 16, _ => ⟨loopC [49, 54], by kernel_rfl⟩
  | 17, _ => ⟨loopC [49, 55], by kernel_rfl⟩
  | 18, _ => ⟨loopC [49, 56], by kernel_rfl⟩
  | 19, _ => ⟨loopC [49, 57], by kernel_rfl⟩
  | 20, _ => ⟨loopC [50, 48], by kernel_rfl⟩
  | 21, _ => ⟨loopC [50, 49], by kernel_rfl⟩
  | 22, _ => ⟨loopC [50, 50], by kernel_rfl⟩
  | 23, _ => ⟨loopC [50, 51], by kernel_rfl⟩
  | 24, _ => ⟨loopC [50, 52], by kernel_rfl⟩
  | 25, _ => ⟨loopC [50, 53], by kernel_rfl⟩
  | 26, _ => ⟨loopC [50, 54], by kernel_rfl⟩
  | 27, _ => ⟨loopC [50, 55], by kernel_rfl⟩
  | 28, _ => ⟨loopC [50, 56], by kernel_rfl⟩
  | 29, _ => ⟨loopC [50, 57], by kernel_rfl⟩
  | 30, _ => ⟨loopC [51, 48], by kernel_rfl⟩
  | 31, _ => ⟨loopC [51, 49], by kernel_rfl⟩
  | 32, _ => ⟨loopC [51, 50], by kernel_rfl⟩
  | 33, _ => ⟨loopC [51, 51], by kernel_rfl⟩
  | 34, _ => ⟨loopC [51, 52], by kernel_rfl⟩
  | 35, _ => ⟨loopC [51, 53], by kernel_rfl⟩
  | 36, _ => ⟨loopC [51, 54], by kernel_rfl⟩
  | 37, _ => ⟨loopC [51, 55], by kernel_rfl⟩
  | 38, _ => ⟨loopC [51, 56], by kernel_rfl⟩
  | 39, _ => ⟨loopC [51, 57], by kernel_rfl⟩
  | 40, _ => ⟨loopC [52, 48], by kernel_rfl⟩
  | n + 41, h => absurd h (by omega)
theorem loop_right {n : Nat} (hn : n ≤ 40) : rightE (looped n) = 0 := by
  obtain ⟨cmd, h⟩ := loop_parse n hn
  exact Lg.right_parse h
theorem loop_num2 {n : Nat} (hn : n ≤ 40) : numL (looped n) := by
  unfold looped body
  rw [Lg.numL_cons, Lg.numL_cons, Lg.numL_cons, Lg.numL_cons]
  exact ⟨by omega, Lg.numL_nil, by omega, ⟨by omega, Lg.numL_nil, by omega, Lg.numL_nil, Lg.numL_nil⟩, Lg.numL_nil⟩
theorem loop_steps (w : World) (g : Nat) (hg : w.heap.size = g) (n : Int) (zs : Array Value) :
    StepsAt (((((((w.alloc (.cells #[.string (bs [108]), .string (bs [120])] 9)).alloc (.cells #[.int .i64 1, .slice (some ⟨g, 0, none⟩) 2 2, .int .i64 0, .slice none 0 0] 42)).alloc (.cells #[.string (bs [109]), .string (bs [108]), .string (bs outf)] 9)).alloc (.cells #[.string (bs [109]), .string (bs outf)] 9)).alloc
      (.cells #[.int .i64 3, .slice (some ⟨g + 1 + 1, 0, none⟩) 3 3, .int .i64 0, .slice none 0 0, .int .i64 2, .slice (some ⟨g + 1 + 1 + 1, 0, none⟩) 2 2, .int .i64 0, .slice none 0 0] 42)).alloc (.cells #[.int .i64 9, .slice none 0 0, .int .i64 n, .slice (some ⟨g + 1 + 1 + 1 + 1, 0, none⟩) 2 2] 42)).alloc
      (.cells (#[.int .i64 1, .slice (some ⟨g, 0, none⟩) 2 2, .int .i64 0, .slice none 0 0] ++ (#[.int .i64 9, .slice none 0 0, .int .i64 n, .slice (some ⟨g + 1 + 1 + 1 + 1, 0, none⟩) 2 2] ++ zs)) 42))
      (fun _ => True) (some ⟨g + 1 + 1 + 1 + 1 + 1 + 1, 0, none⟩) 2 (looped n) := by
  have keep : ∀ (w : World) (o : Obj) (b : Nat), True → b < w.heap.size → True ∧ (w.alloc o).heap[b]? = w.heap[b]? := fun w o b _ hs => ⟨trivial, Below.heap_alloc _ _ _ hs⟩
  have l0 := lies_new w #[.string (bs [108]), .string (bs [120])] [[108], [120]] 2 g hg rfl rfl
  have l0' := (((((l0.mono (by decide) (keep _ (.cells #[.int .i64 1, .slice (some ⟨g, 0, none⟩) 2 2, .int .i64 0, .slice none 0 0] 42))).mono (by decide) (keep _ (.cells #[.string (bs [109]), .string (bs [108]), .string (bs outf)] 9))).mono (by decide) (keep _ (.cells #[.string (bs [109]), .string (bs outf)] 9))).mono (by decide) (keep _ (.cells #[.int .i64 3, .slice (some ⟨g + 1 + 1, 0, none⟩) 3 3, .int .i64 0, .slice none 0 0, .int .i64 2, .slice (some ⟨g + 1 + 1 + 1, 0, none⟩) 2 2, .int .i64 0, .slice none 0 0] 42))).mono (by decide) (keep _ (.cells #[.int .i64 9, .slice none 0 0, .int .i64 n, .slice (some ⟨g + 1 + 1 + 1 + 1, 0, none⟩) 2 2] 42)))
  generalize hw1 : (w.alloc (.cells #[.string (bs [108]), .string (bs [120])] 9)).alloc (.cells #[.int .i64 1, .slice (some ⟨g, 0, none⟩) 2 2, .int .i64 0, .slice none 0 0] 42) = w1 at *
  have h1 : w1.heap.size = g + 1 + 1 := by rw [← hw1]; simp; omega
  have l2 := lies_new w1 #[.string (bs [109]), .string (bs [108]), .string (bs outf)] [mP, lP, outf] 3 (g + 1 + 1) h1 rfl rfl
  have l2' := l2.mono (ok' := fun _ => True) (by decide) (keep _ (.cells #[.string (bs [109]), .string (bs outf)] 9))
  generalize hw2 : w1.alloc (.cells #[.string (bs [109]), .string (bs [108]), .string (bs outf)] 9) = w2 at *
  have h2 : w2.heap.size = g + 1 + 1 + 1 := by rw [← hw2]; simp; omega
  have l3 := lies_new w2 #[.string (bs [109]), .string (bs outf)] [mP, outf] 2 (g + 1 + 1 + 1) h2 rfl rfl
  generalize hw3 : w2.alloc (.cells #[.string (bs [109]), .string (bs outf)] 9) = w3 at *
  have h3 : w3.heap.size = g + 1 + 1 + 1 + 1 := by rw [← hw3]; simp; omega
  have q4 := heap_alloc_new w3 (.cells #[.int .i64 3, .slice (some ⟨g + 1 + 1, 0, none⟩) 3 3, .int .i64 0, .slice none 0 0, .int .i64 2, .slice (some ⟨g + 1 + 1 + 1, 0, none⟩) 2 2, .int .i64 0, .slice none 0 0] 42)
  have l2'' := l2'.mono (ok' := fun _ => True) (by decide) (keep _ (.cells #[.int .i64 3, .slice (some ⟨g + 1 + 1, 0, none⟩) 3 3, .int .i64 0, .slice none 0 0, .int .i64 2, .slice (some ⟨g + 1 + 1 + 1, 0, none⟩) 2 2, .int .i64 0, .slice none 0 0] 42))
  have l3'' := l3.mono (ok' := fun _ => True) (by decide) (keep _ (.cells #[.int .i64 3, .slice (some ⟨g + 1 + 1, 0, none⟩) 3 3, .int .i64 0, .slice none 0 0, .int .i64 2, .slice (some ⟨g + 1 + 1 + 1, 0, none⟩) 2 2, .int .i64 0, .slice none 0 0] 42))
  rw [h3] at q4
  generalize hw4 : w3.alloc (.cells #[.int .i64 3, .slice (some ⟨g + 1 + 1, 0, none⟩) 3 3, .int .i64 0, .slice none 0 0, .int .i64 2, .slice (some ⟨g + 1 + 1 + 1, 0, none⟩) 2 2, .int .i64 0, .slice none 0 0] 42) = w4 at *
  have h4 : w4.heap.size = g + 1 + 1 + 1 + 1 + 1 := by rw [← hw4]; simp; omega
  have lb : Lies w4 (fun _ => True) 4 (some ⟨g + 1 + 1 + 1 + 1, 0, none⟩) 2 [.int .i64 3, .slice (some ⟨g + 1 + 1, 0, none⟩) 3 3, .int .i64 0, .slice none 0 0, .int .i64 2, .slice (some ⟨g + 1 + 1 + 1, 0, none⟩) 2 2, .int .i64 0, .slice none 0 0] := ⟨rfl, fun _ => ⟨_, rfl, trivial, fun j u hu => by
    rw [Lg.add_eq, cell_heap q4]
    simpa using hu⟩⟩
  have rb : RowAt w4 (fun _ => True) [.int .i64 3, .slice (some ⟨g + 1 + 1, 0, none⟩) 3 3, .int .i64 0, .slice none 0 0, .int .i64 2, .slice (some ⟨g + 1 + 1 + 1, 0, none⟩) 2 2, .int .i64 0, .slice none 0 0] body :=
    .cons rfl (Nat.le_refl _) l2'' rfl (Nat.le_refl _) Lies.none_ .nil (.cons rfl (Nat.le_refl _) l3'' rfl (Nat.le_refl _) Lies.none_ .nil .nil)
  have lb5 := lb.mono (ok' := fun _ => True) (by decide) (keep _ (.cells #[.int .i64 9, .slice none 0 0, .int .i64 n, .slice (some ⟨g + 1 + 1 + 1 + 1, 0, none⟩) 2 2] 42))
  have rb5 := rb.mono (keep _ (.cells #[.int .i64 9, .slice none 0 0, .int .i64 n, .slice (some ⟨g + 1 + 1 + 1 + 1, 0, none⟩) 2 2] 42))
  generalize hw5 : w4.alloc (.cells #[.int .i64 9, .slice none 0 0, .int .i64 n, .slice (some ⟨g + 1 + 1 + 1 + 1, 0, none⟩) 2 2] 42) = w5 at *
  have h5 : w5.heap.size = g + 1 + 1 + 1 + 1 + 1 + 1 := by rw [← hw5]; simp; omega
  have q6 := heap_alloc_new w5 (.cells (#[.int .i64 1, .slice (some ⟨g, 0, none⟩) 2 2, .int .i64 0, .slice none 0 0] ++ (#[.int .i64 9, .slice none 0 0, .int .i64 n, .slice (some ⟨g + 1 + 1 + 1 + 1, 0, none⟩) 2 2] ++ zs)) 42)
  rw [h5] at q6
  refine ⟨rfl, [.int .i64 1, .slice (some ⟨g, 0, none⟩) 2 2, .int .i64 0, .slice none 0 0, .int .i64 9, .slice none 0 0, .int .i64 n, .slice (some ⟨g + 1 + 1 + 1 + 1, 0, none⟩) 2 2], ⟨rfl, fun _ => ⟨_, rfl, trivial, fun j u hu => ?_⟩⟩, ?_⟩
  · rw [Lg.add_eq, cell_heap q6]
    rcases j with _ | _ | _ | _ | _ | _ | _ | _ | j <;> simp_all [Array.getElem?_append]
  · exact .cons rfl (Nat.le_refl _) (l0'.mono (by decide) (keep _ _)) rfl (Nat.le_refl _) Lies.none_ .nil (.cons rfl (Nat.le_refl _) Lies.none_ rfl (Nat.le_refl _) (lb5.mono (by decide) (keep _ _)) (rb5.mono (keep _ _)) .nil)
theorem loop_run (m : Nat) (hm : m ≤ 40) (u : Int) (hu : ended (run withF withoutF [] upB soB 2000 (looped m) [⟨bs outf, ⟨#[]⟩⟩]) = ⟨1, [⟨bs [102], bs (xs m)⟩], [], 0, [], u⟩) (w : World) (hE : Lg.Env w) (cap : Nat) :
    Calls Tryz.prog 13 #[.slice (some ⟨w.heap.size + 1 + 1 + 1 + 1 + 1 + 1, 0, none⟩) 2 cap, .slice (some ⟨w.heap.size + 1 + 1 + 1 + 1 + 1 + 1 + 1, 0, none⟩) 1 1, .slice none 0 0, .int .i64 2000] (((((((((w.alloc (.cells #[.string (bs [108]), .string (bs [120])] 9)).alloc (.cells #[.int .i64 1, .slice (some ⟨w.heap.size, 0, none⟩) 2 2, .int .i64 0, .slice none 0 0] 42)).alloc (.cells #[.string (bs [109]), .string (bs [108]), .string (bs outf)] 9)).alloc (.cells #[.string (bs [109]), .string (bs outf)] 9)).alloc (.cells #[.int .i64 3, .slice (some ⟨w.heap.size + 1 + 1, 0, none⟩) 3 3, .int .i64 0, .slice none 0 0, .int .i64 2, .slice (some ⟨w.heap.size + 1 + 1 + 1, 0, none⟩) 2 2, .int .i64 0, .slice none 0 0] 42)).alloc (.cells #[.int .i64 9, .slice none 0 0, .int .i64 (m : Int), .slice (some ⟨w.heap.size + 1 + 1 + 1 + 1, 0, none⟩) 2 2] 42)).alloc (.cells (#[.int .i64 1, .slice (some ⟨w.heap.size, 0, none⟩) 2 2, .int .i64 0, .slice none 0 0] ++ (#[.int .i64 9, .slice none 0 0, .int .i64 (m : Int), .slice (some ⟨w.heap.size + 1 + 1 + 1 + 1, 0, none⟩) 2 2] ++ Builtin.zeroCells #[.int .i64 0, .slice none 0 0, .int .i64 0, .slice none 0 0] (cap - 2))) 42)).alloc (.cells #[.string (bs outf), .string ⟨#[]⟩] 37)).drew) (fun e w' => ∃ A c, e = .returned (.agg #[.int .i64 1, .slice A 1 c, .string (bs []), .int .i64 0, .string (bs []), .int .i64 u]) ∧ Fls w' A [⟨bs [102], bs (xs m)⟩] ∧ Below w.heap.size w w') := by
  have ST := loop_steps w w.heap.size rfl (m : Int) (Builtin.zeroCells #[.int .i64 0, .slice none 0 0, .int .i64 0, .slice none 0 0] (cap - 2))
  have hb : Below w.heap.size w ((((((((w.alloc (.cells #[.string (bs [108]), .string (bs [120])] 9)).alloc (.cells #[.int .i64 1, .slice (some ⟨w.heap.size, 0, none⟩) 2 2, .int .i64 0, .slice none 0 0] 42)).alloc (.cells #[.string (bs [109]), .string (bs [108]), .string (bs outf)] 9)).alloc (.cells #[.string (bs [109]), .string (bs outf)] 9)).alloc (.cells #[.int .i64 3, .slice (some ⟨w.heap.size + 1 + 1, 0, none⟩) 3 3, .int .i64 0, .slice none 0 0, .int .i64 2, .slice (some ⟨w.heap.size + 1 + 1 + 1, 0, none⟩) 2 2, .int .i64 0, .slice none 0 0] 42)).alloc (.cells #[.int .i64 9, .slice none 0 0, .int .i64 (m : Int), .slice (some ⟨w.heap.size + 1 + 1 + 1 + 1, 0, none⟩) 2 2] 42)).alloc (.cells (#[.int .i64 1, .slice (some ⟨w.heap.size, 0, none⟩) 2 2, .int .i64 0, .slice none 0 0] ++ (#[.int .i64 9, .slice none 0 0, .int .i64 (m : Int), .slice (some ⟨w.heap.size + 1 + 1 + 1 + 1, 0, none⟩) 2 2] ++ Builtin.zeroCells #[.int .i64 0, .slice none 0 0, .int .i64 0, .slice none 0 0] (cap - 2))) 42))) := (((((((Below.refl _ _).alloc (Nat.le_refl _) _).alloc (by simp) _).alloc (by simp; omega) _).alloc (by simp; omega) _).alloc (by simp; omega) _).alloc (by simp; omega) _).alloc (by simp; omega) _
  have hz : ((((((((w.alloc (.cells #[.string (bs [108]), .string (bs [120])] 9)).alloc (.cells #[.int .i64 1, .slice (some ⟨w.heap.size, 0, none⟩) 2 2, .int .i64 0, .slice none 0 0] 42)).alloc (.cells #[.string (bs [109]), .string (bs [108]), .string (bs outf)] 9)).alloc (.cells #[.string (bs [109]), .string (bs outf)] 9)).alloc (.cells #[.int .i64 3, .slice (some ⟨w.heap.size + 1 + 1, 0, none⟩) 3 3, .int .i64 0, .slice none 0 0, .int .i64 2, .slice (some ⟨w.heap.size + 1 + 1 + 1, 0, none⟩) 2 2, .int .i64 0, .slice none 0 0] 42)).alloc (.cells #[.int .i64 9, .slice none 0 0, .int .i64 (m : Int), .slice (some ⟨w.heap.size + 1 + 1 + 1 + 1, 0, none⟩) 2 2] 42)).alloc (.cells (#[.int .i64 1, .slice (some ⟨w.heap.size, 0, none⟩) 2 2, .int .i64 0, .slice none 0 0] ++ (#[.int .i64 9, .slice none 0 0, .int .i64 (m : Int), .slice (some ⟨w.heap.size + 1 + 1 + 1 + 1, 0, none⟩) 2 2] ++ Builtin.zeroCells #[.int .i64 0, .slice none 0 0, .int .i64 0, .slice none 0 0] (cap - 2))) 42))).heap.size = w.heap.size + 1 + 1 + 1 + 1 + 1 + 1 + 1 := by simp
  generalize ((((((((w.alloc (.cells #[.string (bs [108]), .string (bs [120])] 9)).alloc (.cells #[.int .i64 1, .slice (some ⟨w.heap.size, 0, none⟩) 2 2, .int .i64 0, .slice none 0 0] 42)).alloc (.cells #[.string (bs [109]), .string (bs [108]), .string (bs outf)] 9)).alloc (.cells #[.string (bs [109]), .string (bs outf)] 9)).alloc (.cells #[.int .i64 3, .slice (some ⟨w.heap.size + 1 + 1, 0, none⟩) 3 3, .int .i64 0, .slice none 0 0, .int .i64 2, .slice (some ⟨w.heap.size + 1 + 1 + 1, 0, none⟩) 2 2, .int .i64 0, .slice none 0 0] 42)).alloc (.cells #[.int .i64 9, .slice none 0 0, .int .i64 (m : Int), .slice (some ⟨w.heap.size + 1 + 1 + 1 + 1, 0, none⟩) 2 2] 42)).alloc (.cells (#[.int .i64 1, .slice (some ⟨w.heap.size, 0, none⟩) 2 2, .int .i64 0, .slice none 0 0] ++ (#[.int .i64 9, .slice none 0 0, .int .i64 (m : Int), .slice (some ⟨w.heap.size + 1 + 1 + 1 + 1, 0, none⟩) 2 2] ++ Builtin.zeroCells #[.int .i64 0, .slice none 0 0, .int .i64 0, .slice none 0 0] (cap - 2))) 42))) = w6 at *
  have ST2 := ((ST.mono (w' := w6.alloc (.cells #[.string (bs outf), .string ⟨#[]⟩] 37)) (ok' := fun _ => True) fun b _ hs => ⟨trivial, Below.heap_alloc _ _ _ hs⟩).dn 1)
  have F := fls_new w6 ⟨bs outf, ⟨#[]⟩⟩
  rw [hz] at F
  have hb2 : Below w.heap.size w (w6.alloc (.cells #[.string (bs outf), .string ⟨#[]⟩] 37)).drew := (hb.alloc hb.size _).drew
  have hr := loop_right hm
  have hp := Lg.right_ok hr
  have F2 : Fls (w6.alloc (.cells #[.string (bs outf), .string ⟨#[]⟩] 37)).drew (some ⟨w.heap.size + 1 + 1 + 1 + 1 + 1 + 1 + 1, 0, none⟩) [⟨bs outf, ⟨#[]⟩⟩] := F
  have := run_any (looped m) (some ⟨w.heap.size + 1 + 1 + 1 + 1 + 1 + 1, 0, none⟩) 2 cap [⟨bs outf, ⟨#[]⟩⟩] (some ⟨w.heap.size + 1 + 1 + 1 + 1 + 1 + 1 + 1, 0, none⟩) 1 [] none 0 0 2000 _ (fun _ => True) (hE.below hb2) ST2 (loop_num2 hm) (by have := parse_short hp; omega) F2 (by simp) (Nat.le_refl _) (fun f hf => by rw [List.mem_singleton.1 hf]; exact ⟨by decide, by decide⟩) Reads.none_ rfl (by simp)
  have ho : outcome (looped m) [⟨bs outf, ⟨#[]⟩⟩] [] 2000 = ⟨1, [⟨bs [102], bs (xs m)⟩], [], 0, [], u⟩ := (outcome_good (fs := [⟨bs outf, ⟨#[]⟩⟩]) hr (check_out [] (by simp)) ⟨by decide, by decide⟩).trans hu
  rw [ho] at this
  refine this.mono ?_
  rintro e w' ⟨A, c, he, hf, hc, hb3⟩
  exact ⟨A, c, he, hf, hb2.trans (hb3.mono hb2.size)⟩
set_option maxHeartbeats 8000000 in
theorem loop_walk (n : Int) (hwf : (Lit.int .i64 n).wf = true) (w : World) (hE : Lg.Env w) : Calls Tryz.prog 6 #[.int .i64 n] w fun e w' => e = .returned (.bool true) ∧ Below w.heap.size w w' := by
  have EV := Lib.hid (fun W (h : Below w.heap.size w W) => hE.below h)
  have AW := Lib.hid (fun W (h : Below w.heap.size w W) => awake_any W (hE.below h))
  have hA := Below.refl w.heap.size w
  clear hE hwf
  by_cases hn : n < 0 ∨ 40 < n
  · rcases hn with h | h
    · have d1 : decide (n < 0) = true := decide_eq_true h
      go_enter Tryz.func6, Tryz.ntmps6
      go_wp2_with (go_at_call 12; (with_reducible refine (AW.out _ hA).mono ?_); rintro e wz ⟨rfl, bz⟩)
      go_ret
      exact ⟨rfl, bz⟩
    · have d1 : decide (n < 0) = false := decide_eq_false (by omega)
      have d2 : decide ((40 : Int) < n) = true := decide_eq_true h
      have h1 : ¬ n < 0 := by omega
      go_enter Tryz.func6, Tryz.ntmps6
      go_wp2_with (go_at_call 12; (with_reducible refine (AW.out _ hA).mono ?_); rintro e wz ⟨rfl, bz⟩)
      go_ret
      exact ⟨rfl, bz⟩
  · obtain ⟨m, rfl⟩ : ∃ m : Nat, n = (m : Int) := ⟨n.toNat, by omega⟩
    have hm : m ≤ 40 := by omega
    have h1 : ¬ (m : Int) < 0 := by omega
    have h2 : ¬ (40 : Int) < (m : Int) := by omega
    have d1 : decide ((m : Int) < 0) = false := decide_eq_false h1
    have d2 : decide ((40 : Int) < (m : Int)) = false := decide_eq_false h2
    have HM := Lib.hid hm
    obtain ⟨u, hu⟩ := out_loop m hm
    have RUN := Lib.hid (fun cap => loop_run m hm u hu w (EV.out w hA) cap)
    have hx : (bs (xs m)).size = 2 * m := by have h1 := Lg.tl_len (bs (xs m)); have h2 : (Lg.tl (bs (xs m))).length = (xs m).length := rfl; have h3 := xs_len m; omega
    have g1 : (((bs (xs m)).size : Int) == 2 * (m : Int)) = true := by rw [hx]; simp
    have i1 : IntKind.i64.wrap (2 * (m : Int)) = 2 * (m : Int) := IntWalk.i64_in _ (by omega)
    clear hu hm hn hx
    generalize bs (xs m) = t at *
    generalize (m : Int) = n at *
    go_enter Tryz.func6, Tryz.ntmps6
    go_wp2_with (fail)
    refine (one_is 1 _ 2 2 _).mono ?_
    rintro e w1 ⟨rfl, rfl⟩
    go_wp2_with (fail)
    generalize (Question.appendCap 2 1 42).cut (w.tape w.drawn (Question.appendCap 2 1 42)) = cap at *
    refine (RUN.out cap).mono ?_
    rintro e w4 ⟨A4, c4, rfl, f4, b4⟩
    obtain ⟨ad, rfl, had, hc⟩ := f4.2 (by simp)
    have x2 : (w4.alloc (.cells #[.int .i64 1, .slice (some ad) 1 c4, .string (bs []), .int .i64 0, .string (bs []), .int .i64 u] 31)).cell? ⟨ad.block, ad.off + 1, none⟩ = some (.string t) := by
      have h1 : w4.cell? (ad.add 1) = some (.string t) := hc 1 _ rfl
      have := ((Below.refl w4.heap.size w4).alloc (Nat.le_refl _) (.cells #[.int .i64 1, .slice (some ad) 1 c4, .string (bs []), .int .i64 0, .string (bs []), .int .i64 u] 31)).cell (p := ad.add 1) (by rw [block_of_add]; exact had)
      exact this.trans h1
    have h5 : Below w.heap.size w (w4.alloc (.cells #[.int .i64 1, .slice (some ad) 1 c4, .string (bs []), .int .i64 0, .string (bs []), .int .i64 u] 31)) := b4.alloc b4.size _
    clear hc f4 had
    go_wp2_with (go_at_call 12; (with_reducible refine (AW.out _ h5).mono ?_); rintro e wz ⟨rfl, bz⟩)
    go_ret
    exact ⟨rfl, h5.trans (bz.mono h5.size)⟩
end Go.Proofs.YthkaehnhdldbbaaGreatDoor.Bx
