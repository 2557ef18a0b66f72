/- Joined by mkmerged.py: BxFew, BxAwake, BxAwakeW. -/
import Derived.Test.YtnheahologecfaaGreatDoorMd33
import Derived.Test.YtnheahologecfaaGreatDoorMd14
import Derived.Test.YtnheahologecfaaGreatDoorMd21
import Derived.Test.YtnheahologecfaaGreatDoorMd04
import Derived.Deep.Cut
/- BxFew, what a claim needs of it (prune.py). -/
namespace Go.Proofs.YtnheahologecfaaGreatDoor.Bx
open Go.RowKit
open Lg (BelowX Lies strV StepsAt Stp numL smallL weight SmSays)
open Fs (fc fc_len fc_cell Fls B)
set_option linter.unusedVariables false
set_option maxRecDepth 100000
theorem bsmall_any (l : List Stp) (A : Option Addr) (n cp : Nat) (W : World) (ok : Nat → Prop) (hr : StepsAt W ok A n l) :
    Calls Tryz.prog 60 #[.slice A n cp] W fun e W' => ∃ b, e = .returned (.bool b) ∧ Below W.heap.size W W' ∧ (b = true → weight l ≤ 300 ∧ smallL l) := by
  have hr1 : StepsAt (W.alloc (.cells #[.int .i64 (300 : Int)] 3)) (fun b => b ≠ W.heap.size) A n l := hr.mono (fun b _ hs => ⟨by omega, Below.heap_alloc _ _ _ hs⟩)
  have IH : Hid (Calls Tryz.prog 115 #[.slice A n cp, .pointer (some ⟨W.heap.size, 0, none⟩), .int .i64 60] (W.alloc (.cells #[.int .i64 300] 3)) fun e W' => SmSays (W.alloc (.cells #[.int .i64 (300 : Int)] 3)) W' W.heap.size 300 l e) := Lib.hid (Lg.small_any 60 (by decide) l A n cp (W.alloc (.cells #[.int .i64 (300 : Int)] 3)) W.heap.size 300 hr1 (heap_alloc_new W _) (by omega))
  clear hr hr1
  go_enter Tryz.func60, Tryz.ntmps60
  go_wp2_with (go_at_call 115; (with_reducible refine (IH.out).mono ?_); rintro e w4 ⟨bv, rfl, hb4, hres⟩; have HRES := Lib.hid hres; clear hres)
  go_ret
  refine ⟨bv, rfl, (((Below.refl _ _).alloc (Nat.le_refl _) _).trans (hb4.below (by simp) (Nat.le_refl _))), fun h => ?_⟩
  obtain ⟨k, _, hw, hs⟩ := HRES.out h
  exact ⟨by omega, hs⟩
structure FewB (l : List Stp) (fs : List Fl) (names : Nat) : Prop where
  w : weight l ≤ 300
  s : smallL l
  fl : fs.length ≤ 60
  nl : names ≤ 30
  fz : ∀ f ∈ fs, f.p.size ≤ 100 ∧ f.d.size ≤ 3000
def FewSays (l : List Stp) (fs : List Fl) (names : Nat) (w : World) (e : Ending) (w' : World) : Prop := ∃ b, e = .returned (.bool b) ∧ Below w.heap.size w w' ∧ (b = true → FewB l fs names)
def ShortTo (fs : List Fl) (k : Nat) : Prop := ∀ j (hj : j < fs.length), j < k → fs[j].p.size ≤ 100 ∧ fs[j].d.size ≤ 3000
theorem ShortTo.next {fs : List Fl} {k : Nat} (hk : k < fs.length) (h : ShortTo fs k) (h1 : fs[k].p.size ≤ 100) (h2 : fs[k].d.size ≤ 3000) : ShortTo fs (k + 1) := fun j hj hjk => by
  rcases Nat.lt_or_ge j k with h3 | h3
  · exact h j hj h3
  · obtain rfl : j = k := by omega
    exact ⟨h1, h2⟩
set_option maxHeartbeats 2000000 in
theorem few_any (l : List Stp) (L : Option Addr) (m mc : Nat) (fs : List Fl) (F : Option Addr) (fcc : Nat) (N : Option Addr) (nn nc : Nat) (w : World) (ok : Nat → Prop) (hsl : StepsAt w ok L m l) (hf : Fls w F fs) (hfl : fs.length ≤ maxLen) (hnn : nn ≤ maxLen) (hfz : ∀ f ∈ fs, f.p.size ≤ maxLen ∧ f.d.size ≤ maxLen) :
    Calls Tryz.prog 25 #[.slice L m mc, .slice F fs.length fcc, .slice N nn nc] w (FewSays l fs nn w) := by
  have SM := Lib.hid (bsmall_any l L m mc w ok hsl)
  have RD : Hid (∀ W, Below w.heap.size w W → Reads W w.heap.size 2 F fs.length (fc fs)) := Lib.hid fun W hW => hf.below hW
  have NO : Hid (∀ W, Below w.heap.size w W → FewSays l fs nn w (.returned (.bool false)) W) := Lib.hid fun W h => ⟨false, rfl, h, fun h => by cases h⟩
  have YES : Hid (∀ W, Below w.heap.size w W → (weight l ≤ 300 ∧ smallL l) → fs.length ≤ 60 → nn ≤ 30 → ShortTo fs fs.length → FewSays l fs nn w (.returned (.bool true)) W) := Lib.hid fun W h h1 h2 h3 h4 => ⟨true, rfl, h, fun _ => ⟨h1.1, h1.2, h2, h3, fun f hf => by
    obtain ⟨j, hj, rfl⟩ := List.mem_iff_getElem.1 hf
    exact h4 j hj hj⟩⟩
  have FZ := Lib.hid hfz
  unfold maxLen at hfl hnn
  clear hsl hf hfz
  generalize FewSays l fs nn w = Q at *
  by_cases h60 : (60 : Int) < (fs.length : Int)
  · have d60 : decide ((60 : Int) < (fs.length : Int)) = true := decide_eq_true h60
    go_enter Tryz.func25, Tryz.ntmps25
    go_wp2_with (go_at_call 60; (with_reducible refine (SM.out).mono ?_); rintro e w1 ⟨bv, rfl, b1, hs⟩; clear hs; rcases bv with _ | _)
    all_goals exact NO.out _ b1
  · have d60 : decide ((60 : Int) < (fs.length : Int)) = false := decide_eq_false h60
    by_cases h30 : (30 : Int) < (nn : Int)
    · have d30 : decide ((30 : Int) < (nn : Int)) = true := decide_eq_true h30
      go_enter Tryz.func25, Tryz.ntmps25
      go_wp2_with (go_at_call 60; (with_reducible refine (SM.out).mono ?_); rintro e w1 ⟨bv, rfl, b1, hs⟩; clear hs; rcases bv with _ | _)
      all_goals exact NO.out _ b1
    · have d30 : decide ((30 : Int) < (nn : Int)) = false := decide_eq_false h30
      go_enter Tryz.func25, Tryz.ntmps25
      go_wp2_with (go_at_call 60; (with_reducible refine (SM.out).mono ?_); rintro e w1 ⟨bv, rfl, b1, hs⟩; have HS := Lib.hid hs; clear hs; rcases bv with _ | _)
      · exact NO.out _ b1
      · have H2 := Lib.hid (HS.out (by trivial))
        have B1 := Lib.hid b1
        clear HS b1
        go_loopw [7] (fun i W => ∃ k : Nat, i = .int .i64 k ∧ k ≤ fs.length ∧ Hid (ShortTo fs k) ∧ W = w1) (fun i _ => fs.length - (intOf i).toNat)
        case atStart => exact ⟨0, rfl, by omega, Lib.hid (fun j _ h => by omega), rfl⟩
        case round =>
          obtain ⟨k, rfl, hk, HA, rfl⟩ := hrel
          by_cases hlt : k < fs.length
          · have hkI : (k : Int) < (fs.length : Int) := by omega
            obtain ⟨ad, rfl, had, c0, c1⟩ := Fs.Fls.at_ (RD.out _ B1.out) hlt
            have NX := Lib.hid (fun h1 h2 => HA.out.next hlt h1 h2)
            have fz := FZ.out _ (List.getElem_mem hlt)
            unfold maxLen at fz
            obtain ⟨fz1, fz2⟩ := fz
            generalize fs[k] = f at *
            by_cases hp : (100 : Int) < (f.p.size : Int)
            · have dp : decide ((100 : Int) < (f.p.size : Int)) = true := decide_eq_true hp
              go_wp2_with (fail)
              exact NO.out _ B1.out
            · have dp : decide ((100 : Int) < (f.p.size : Int)) = false := decide_eq_false hp
              by_cases hd : (3000 : Int) < (f.d.size : Int)
              · have dd : decide ((3000 : Int) < (f.d.size : Int)) = true := decide_eq_true hd
                go_wp2_with (fail)
                exact NO.out _ B1.out
              · have dd : decide ((3000 : Int) < (f.d.size : Int)) = false := decide_eq_false hd
                have G := Lib.hid (NX.out (by omega) (by omega))
                go_wp2_with (fail)
                go_roundw
                case rel => exact ⟨k + 1, by go_num, by omega, G, by first | rfl | trivial⟩
                case measure => simp [intOf]; omega
          · obtain rfl : k = fs.length := by omega
            go_wp2_with (fail)
            exact YES.out _ B1.out H2.out (by omega) (by omega) HA.out
theorem rsame6_any (kd er us : Int) (nd tx : ByteArray) (fs : List Fl) (A F : Option Addr) (c d : Nat) (w : World) (hA : Fls w A fs) (hF : Fls w F fs) (hl : fs.length ≤ 1000000000) :
    Calls Tryz.prog 29 #[.agg #[.int .i64 kd, .slice A fs.length c, .string nd, .int .i64 er, .string tx, .int .i64 us], .agg #[.int .i64 kd, .slice F fs.length d, .string nd, .int .i64 er, .string tx, .int .i64 us]] w fun e w' => e = .returned (.bool true) ∧ Below w.heap.size w w' := by
  obtain ⟨W1, eW⟩ : ∃ W1, W1 = (w.alloc (.cells #[.int .i64 kd, .slice A fs.length c, .string nd, .int .i64 er, .string tx, .int .i64 us] 50)).alloc (.cells #[.int .i64 kd, .slice F fs.length d, .string nd, .int .i64 er, .string tx, .int .i64 us] 50) := ⟨_, rfl⟩
  have hb : Below w.heap.size w W1 := by rw [eW]; exact ((Below.refl _ _).alloc (Nat.le_refl _) _).alloc (by simp) _
  have SM : Hid (Calls Tryz.prog 24 #[.slice A fs.length c, .slice F fs.length d] W1 fun e w' => e = .returned (.bool true) ∧ Below W1.heap.size W1 w') := Lib.hid (by
    have := Fs.rsameF_any A F fs fs c d W1 hl hl ((hA.below hb).more hb.size) ((hF.below hb).more hb.size)
    rw [decide_eq_true rfl] at this
    exact this)
  have n1 : (nd.toList == nd.toList) = true := by simp
  have n2 : (tx.toList == tx.toList) = true := by simp
  clear hA hF hl
  go_enter Tryz.func29, Tryz.ntmps29
  go_wp2_with (go_at_call 24; rw [← eW]; clear eW; (with_reducible refine (SM.out).mono ?_); rintro e w2 ⟨rfl, h2⟩)
  go_ret
  exact ⟨rfl, hb.trans (h2.mono hb.size)⟩
end Go.Proofs.YtnheahologecfaaGreatDoor.Bx
/- BxAwake, what a claim needs of it (prune.py). -/
namespace Go.Proofs.YtnheahologecfaaGreatDoor.Bx
open Go.RowKit
open Lg (BelowX Lies strV StepsAt RowAt Stp numL rightE print parse)
open Fs (fc fc_len fc_cell Fls B under checkE)
set_option linter.unusedVariables false
set_option maxRecDepth 100000
theorem one_any (o : Int) (ag : List B) (A : Option Addr) (k c g : Nat) (w : World) (hg : w.heap.size = g) (hr : Lies w (fun _ => True) 1 A k (strV ag)) (hk : k = ag.length) (hc : k ≤ c) :
    Calls Tryz.prog 33 #[.int .i64 o, .slice A k c] w fun e w' => e = .returned (.slice (some ⟨g, 0, none⟩) 1 1) ∧ StepsAt w' (fun _ => True) (some ⟨g, 0, none⟩) 1 [⟨o, ag, 0, []⟩] ∧ Below w.heap.size w w' ∧ w'.heap.size = w.heap.size + 1 := by
  subst hg
  have EN : Hid (StepsAt (w.alloc (.cells #[.int .i64 o, .slice A k c, .int .i64 0, .slice none 0 0] 64)) (fun _ => True) (some ⟨w.heap.size, 0, none⟩) 1 [⟨o, ag, 0, []⟩]) := Lib.hid (by
    have q := heap_alloc_new w (.cells #[.int .i64 o, .slice A k c, .int .i64 0, .slice none 0 0] 64)
    refine ⟨rfl, [.int .i64 o, .slice A k c, .int .i64 0, .slice none 0 0], ⟨rfl, fun _ => ⟨_, rfl, trivial, fun j u hu => ?_⟩⟩, ?_⟩
    · rw [Lg.add_eq, cell_heap q]
      simpa using hu
    · exact .cons hk hc (hr.mono (by decide) fun b _ hs => ⟨trivial, Below.heap_alloc _ _ _ hs⟩) rfl (Nat.le_refl _) Lies.none_ .nil .nil)
  clear hr hk hc
  go_enter Tryz.func33, Tryz.ntmps33
  go_wp2_with (fail)
  go_ret
  exact ⟨rfl, EN.out, (Below.refl _ _).alloc (Nat.le_refl _) _, by simp⟩
theorem lies_new (w : World) (cs : Array Value) (l : List B) (n g : Nat) (hg : w.heap.size = g) (h : cs.toList = strV l) (hn : n = l.length) : Lies (w.alloc (.cells cs 9)) (fun _ => True) 1 (some ⟨g, 0, none⟩) n (strV l) := by
  subst hn hg
  refine ⟨by simp, fun _ => ⟨_, rfl, trivial, fun j u hu => ?_⟩⟩
  rw [Lg.add_eq, cell_heap (heap_alloc_new w _)]
  rw [← h] at hu
  simpa using hu
theorem check_nil : checkE [] = 0 := right_iff.2 ⟨fun f hf => (by cases hf), by simp, List.Pairwise.nil, fun a ha => (by cases ha)⟩
theorem outcome_of {cmd : B} {l : List Stp} (hp : parse cmd = (l, 0)) {fs : List Fl} (hf : checkE fs = 0) {names : List B} {fu : Nat} (h1 : 1 ≤ fu) (h2 : fu ≤ 2000) : outcome l fs names fu = ended (run withF withoutF names upB soB fu l fs) := by
  unfold outcome
  rw [if_neg (by rw [Lg.right_parse hp]; simp), if_neg (by omega)]
  rfl
theorem run_line {cmd : B} {l : List Stp} (hp : parse cmd = (l, 0)) (hcl : cmd.length ≤ 4000000) {fs : List Fl} (hf : checkE fs = 0) {names : List B} {fu : Nat} (h1 : 1 ≤ fu) (h2 : fu ≤ 2000) {o : Out} (ho : ended (run withF withoutF names upB soB fu l fs) = o)
    (L : Option Addr) (m mc : Nat) (F : Option Addr) (fn fcc : Nat) (N : Option Addr) (nn nc : Nat) (w : World) (ok : Nat → Prop) (hE : Lg.Env w) (hsl : StepsAt w ok L m l) (hfl : Fls w F fs) (hfn : fn = fs.length) (hfc : fn ≤ fcc) (hnm : Reads w w.heap.size 1 N nn (strV names)) (hnn : nn = names.length) (hnl : names.length ≤ 1000000) :
    Calls Tryz.prog 27 #[.slice L m mc, .slice F fn fcc, .slice N nn nc, .int .i64 fu] w (RunSays o w) := by
  subst hfn
  have hR := right_iff.1 hf
  have := run_any l L m mc fs F fcc names N nn nc fu w ok hE hsl (Lg.parse_num hp) (by rw [Lg.parse_print hp]; exact hcl) hfl (by have := hR.len; omega) hfc (fun f hf => ⟨by have := path_size (hR.each f hf).1; unfold maxLen; omega, by have := (hR.each f hf).2; unfold maxLen; omega⟩) hnm hnn hnl
  rw [outcome_of hp hf h1 h2, ho] at this
  exact this
def c1 : B := [112, 117, 116, 32, 111, 117, 116, 47, 97, 32, 120, 10]
def l1 : List Stp := [⟨1, [[111, 117, 116, 47, 97], [120]], 0, []⟩]
def c2 : B := [110, 101, 101, 100, 32, 116, 10]
def l2 : List Stp := [⟨7, [[116]], 0, []⟩]
def c4 : B := [108, 111, 111, 112, 32, 57, 57, 10, 100, 114, 111, 112, 32, 97, 10, 101, 110, 100, 10]
def l4 : List Stp := [⟨9, [], 99, [⟨6, [[97]], 0, []⟩]⟩]
def c5 : B := [99, 111, 112, 121, 32, 97, 32, 98, 10]
def l5 : List Stp := [⟨2, [[97], [98]], 0, []⟩]
theorem p1 : parse c1 = (l1, 0) := by kernel_rfl
theorem p2 : parse c2 = (l2, 0) := by kernel_rfl
theorem p4 : parse c4 = (l4, 0) := by kernel_rfl
theorem p5 : parse c5 = (l5, 0) := by kernel_rfl
def o1 : Out := ⟨1, [⟨bs [97], bs [120, 10]⟩], [], 0, [], 2⟩
def o2 : Out := ⟨2, [], [116], 0, [], 1⟩
def o3 : Out := ⟨1, [], [], 0, [], 1⟩
def o4 : Out := ⟨3, [], [], 34, [], 50⟩
def o5 : Out := ⟨3, [], [], 17, [97], 1⟩
theorem all_single {fu : Nat} {names : List B} {o n : Int} {a : List B} {b : List Stp} {s t : St} (ho : s.kind = 0) (h : does fu withF withoutF names upB soB o a n (all fu withF withoutF names upB soB b) s = t) : all fu withF withoutF names upB soB [⟨o, a, n, b⟩] s = t := (all_one ho h).trans all_end
theorem all_nil_fun {fu : Nat} {names : List B} : all fu withF withoutF names upB soB [] = id := funext fun s => all_end
theorem r1 : ended (run withF withoutF [] upB soB 9 l1 []) = o1 := by
  have : run withF withoutF [] upB soB 9 l1 [] = ⟨[⟨bs [111, 117, 116, 47, 97], bs [120, 10]⟩], 2, 0, [], 0, []⟩ := all_single rfl (by rw [all_nil_fun]; kernel_rfl)
  exact (congrArg ended this).trans (by kernel_rfl)
theorem r2 : ended (run withF withoutF [] upB soB 9 l2 []) = o2 := by
  have : run withF withoutF [] upB soB 9 l2 [] = ⟨[], 1, 2, [116], 0, []⟩ := all_single rfl (by rw [all_nil_fun]; kernel_rfl)
  exact (congrArg ended this).trans (by kernel_rfl)
theorem r3 : ended (run withF withoutF [[116]] upB soB 9 l2 []) = o3 := by
  have : run withF withoutF [[116]] upB soB 9 l2 [] = ⟨[], 1, 0, [], 0, []⟩ := all_single rfl (by rw [all_nil_fun]; kernel_rfl)
  exact (congrArg ended this).trans (by kernel_rfl)
theorem r5 : ended (run withF withoutF [] upB soB 9 l5 []) = o5 := by
  have : run withF withoutF [] upB soB 9 l5 [] = ⟨[], 1, 3, [], 17, [97]⟩ := all_single rfl (by rw [all_nil_fun]; kernel_rfl)
  exact (congrArg ended this).trans (by kernel_rfl)
def dropG (s : St) : St := if over s = true then s else does 50 withF withoutF [] upB soB 6 [[97]] 0 id s
theorem drop_fun : all 50 withF withoutF [] upB soB [⟨6, [[97]], 0, []⟩] = dropG := funext fun s => by
  unfold dropG
  rw [all, all_nil_fun]
  by_cases h : over s = true
  · rw [if_pos h, if_pos h]
  · rw [if_neg h, if_neg h]; rfl
theorem r4 : ended (run withF withoutF [] upB soB 50 l4 []) = o4 := by
  have : run withF withoutF [] upB soB 50 l4 [] = ⟨[], 50, 3, [], 34, []⟩ := all_single rfl (by rw [drop_fun]; kernel_rfl)
  exact (congrArg ended this).trans (by kernel_rfl)
end Go.Proofs.YtnheahologecfaaGreatDoor.Bx
/- BxAwakeW, what a claim needs of it (prune.py). -/
namespace Go.Proofs.YtnheahologecfaaGreatDoor.Bx
open Go.RowKit
open Lg (BelowX Lies strV StepsAt RowAt Stp numL rightE print parse)
open Fs (fc fc_len fc_cell fc_one Fls B under checkE)
set_option linter.unusedVariables false
set_option maxRecDepth 100000
def RunIs (k : Int) (n : Nat) (fs : List Fl) (need : ByteArray) (er : Int) (text : ByteArray) (us : Int) (w : World) (e : Ending) (w' : World) : Prop :=
  ∃ A c, e = .returned (.agg #[.int .i64 k, .slice A n c, .string need, .int .i64 er, .string text, .int .i64 us]) ∧ Fls w' A fs ∧ Below w.heap.size w w'
theorem run1 (W : World) (L : Option Addr) (hE : Lg.Env W) (hst : StepsAt W (fun _ => True) L 1 l1) : Calls Tryz.prog 27 #[.slice L 1 1, .slice none 0 0, .slice none 0 0, .int .i64 9] W (RunIs 1 1 [⟨bs [97], bs [120, 10]⟩] ⟨#[]⟩ 0 ⟨#[]⟩ 2 W) :=
  (run_line p1 (by decide) check_nil (by decide) (by decide) r1 L 1 1 none 0 0 none 0 0 W _ hE hst Reads.none_ rfl (Nat.le_refl _) Reads.none_ rfl (by decide)).mono fun e w' ⟨A, c, h1, h2, _, h3⟩ => ⟨A, c, h1, h2, h3⟩
theorem run2 (W : World) (L : Option Addr) (hE : Lg.Env W) (hst : StepsAt W (fun _ => True) L 1 l2) : Calls Tryz.prog 27 #[.slice L 1 1, .slice none 0 0, .slice none 0 0, .int .i64 9] W (RunIs 2 0 [] ⟨#[116]⟩ 0 ⟨#[]⟩ 1 W) :=
  (run_line p2 (by decide) check_nil (by decide) (by decide) r2 L 1 1 none 0 0 none 0 0 W _ hE hst Reads.none_ rfl (Nat.le_refl _) Reads.none_ rfl (by decide)).mono fun e w' ⟨A, c, h1, h2, _, h3⟩ => ⟨A, c, h1, h2, h3⟩
theorem run3 (W : World) (L N : Option Addr) (hE : Lg.Env W) (hst : StepsAt W (fun _ => True) L 1 l2) (hn : Reads W W.heap.size 1 N 1 (strV [[116]])) : Calls Tryz.prog 27 #[.slice L 1 1, .slice none 0 0, .slice N 1 1, .int .i64 9] W (RunIs 1 0 [] ⟨#[]⟩ 0 ⟨#[]⟩ 1 W) :=
  (run_line p2 (by decide) check_nil (by decide) (by decide) r3 L 1 1 none 0 0 N 1 1 W _ hE hst Reads.none_ rfl (Nat.le_refl _) hn rfl (by decide)).mono fun e w' ⟨A, c, h1, h2, _, h3⟩ => ⟨A, c, h1, h2, h3⟩
theorem run4 (W : World) (L : Option Addr) (hE : Lg.Env W) (hst : StepsAt W (fun _ => True) L 1 l4) : Calls Tryz.prog 27 #[.slice L 1 1, .slice none 0 0, .slice none 0 0, .int .i64 50] W (RunIs 3 0 [] ⟨#[]⟩ 34 ⟨#[]⟩ 50 W) :=
  (run_line p4 (by decide) check_nil (by decide) (by decide) r4 L 1 1 none 0 0 none 0 0 W _ hE hst Reads.none_ rfl (Nat.le_refl _) Reads.none_ rfl (by decide)).mono fun e w' ⟨A, c, h1, h2, _, h3⟩ => ⟨A, c, h1, h2, h3⟩
theorem run5 (W : World) (L : Option Addr) (hE : Lg.Env W) (hst : StepsAt W (fun _ => True) L 1 l5) : Calls Tryz.prog 27 #[.slice L 1 1, .slice none 0 0, .slice none 0 0, .int .i64 9] W (RunIs 3 0 [] ⟨#[]⟩ 17 ⟨#[97]⟩ 1 W) :=
  (run_line p5 (by decide) check_nil (by decide) (by decide) r5 L 1 1 none 0 0 none 0 0 W _ hE hst Reads.none_ rfl (Nat.le_refl _) Reads.none_ rfl (by decide)).mono fun e w' ⟨A, c, h1, h2, _, h3⟩ => ⟨A, c, h1, h2, h3⟩
theorem loop_new (w : World) (n : Int) (b : List Stp) (L : Option Addr) (m c g : Nat) (hg : w.heap.size = g) (h : StepsAt w (fun _ => True) L m b) (hc : m ≤ c) :
    StepsAt (w.alloc (.cells #[.int .i64 9, .slice none 0 0, .int .i64 n, .slice L m c] 64)) (fun _ => True) (some ⟨g, 0, none⟩) 1 [⟨9, [], n, b⟩] := by
  subst hg
  have q := heap_alloc_new w (.cells #[.int .i64 9, .slice none 0 0, .int .i64 n, .slice L m c] 64)
  obtain ⟨h1, cells, h2, h3⟩ := h
  have keep : ∀ b, True → b < w.heap.size → True ∧ (w.alloc (.cells #[.int .i64 9, .slice none 0 0, .int .i64 n, .slice L m c] 64)).heap[b]? = w.heap[b]? := fun b _ hs => ⟨trivial, Below.heap_alloc _ _ _ hs⟩
  refine ⟨rfl, [.int .i64 9, .slice none 0 0, .int .i64 n, .slice L m c], ⟨rfl, fun _ => ⟨_, rfl, trivial, fun j u hu => ?_⟩⟩, ?_⟩
  · rw [Lg.add_eq, cell_heap q]
    simpa using hu
  · exact .cons rfl (Nat.le_refl _) Lies.none_ h1 hc (h2.mono (by decide) keep) (h3.mono keep) .nil
set_option maxHeartbeats 8000000 in
theorem awake_any (w : World) (hE : Lg.Env w) : Calls Tryz.prog 26 #[] w fun e w' => e = .returned (.bool true) ∧ Below w.heap.size w w' := by
  have EV := Lib.hid (fun W (h : Below w.heap.size w W) => hE.below h)
  have ONE := Lib.hid one_any
  clear hE
  go_enter Tryz.func26, Tryz.ntmps26
  go_wp2_with (fail)
  refine (ONE.out 1 [[111, 117, 116, 47, 97], [120]] _ 2 2 (w.heap.size + 1) _ (by simp) (lies_new w _ _ 2 _ rfl rfl rfl) rfl (Nat.le_refl _)).mono ?_
  rintro e w1 ⟨rfl, st1, b1, z1⟩
  have h1 := ((Below.refl _ _).alloc (Nat.le_refl _) _).trans (b1.mono (by simp))
  have ST1 := Lib.hid st1
  have H1 := Lib.hid h1
  clear st1 b1 z1 h1
  go_wp2_with (fail)
  refine (run1 w1 _ (EV.out _ H1.out) ST1.out).mono ?_
  rintro e w2 ⟨A2, c2, rfl, f2, b2⟩
  have F2 := Lib.hid f2
  have H2 := Lib.hid (H1.out.trans (b2.mono H1.out.size))
  clear f2 b2 ST1
  go_wp2_with (fail)
  refine (ONE.out 7 [[116]] _ 1 1 (w2.heap.size + 2) _ (by simp) (lies_new _ _ _ 1 (w2.heap.size + 1) (by simp) rfl rfl) rfl (Nat.le_refl _)).mono ?_
  rintro e w3 ⟨rfl, st3, b3, z3⟩
  have ST3 := Lib.hid st3
  have H3 := Lib.hid (((H2.out.alloc H2.out.size _).alloc (by simp; have := H2.out.size; omega) _).trans (b3.mono (by simp; have := H2.out.size; omega)))
  have K2x3 := Lib.hid (heap_below b3 (by simp; omega) (heap_alloc_lt (heap_alloc_new w2 _)))
  have D3 : Hid (Below w2.heap.size w2 w3) := Lib.hid ((((Below.refl _ _).alloc (Nat.le_refl _) _).alloc (by simp) _).trans (b3.mono (by simp; omega)))
  clear st3 b3 z3
  go_wp2_with (fail)
  refine (run2 w3 _ (EV.out _ H3.out) ST3.out).mono ?_
  rintro e w4 ⟨A4, c4, rfl, f4, b4⟩
  have H4 := Lib.hid (H3.out.trans (b4.mono H3.out.size))
  have K2x4 := Lib.hid (heap_below b4 (lt_heap K2x3.out) K2x3.out)
  have D4 : Hid (Below w3.heap.size w3 w4) := Lib.hid b4
  clear f4 b4 ST3 K2x3
  go_wp2_with (fail)
  refine (ONE.out 7 [[116]] _ 1 1 (w4.heap.size + 2) _ (by simp) (lies_new _ _ _ 1 (w4.heap.size + 1) (by simp) rfl rfl) rfl (Nat.le_refl _)).mono ?_
  rintro e w5 ⟨rfl, st5, b5, z5⟩
  have ST5 := Lib.hid st5
  have D5 : Hid (Below w4.heap.size w4 w5) := Lib.hid ((((Below.refl _ _).alloc (Nat.le_refl _) _).alloc (by simp) _).trans (b5.mono (by simp; omega)))
  have H5 := Lib.hid (H4.out.trans (D5.out.mono H4.out.size))
  have K4x5 := Lib.hid (heap_below b5 (by simp; omega) (heap_alloc_lt (heap_alloc_new w4 _)))
  have K2x5 := Lib.hid (heap_below D5.out (lt_heap K2x4.out) K2x4.out)
  clear K2x4
  clear st5 b5 z5
  go_wp2_with (fail)
  refine (run3 _ _ _ (EV.out _ (H5.out.alloc H5.out.size _)) (ST5.out.mono fun k _ hs => ⟨trivial, Below.heap_alloc _ _ _ hs⟩) ((lies_new w5 _ [[116]] 1 _ rfl rfl rfl).reads (by decide))).mono ?_
  rintro e w6 ⟨A6, c6, rfl, f6, b6⟩
  have D6 : Hid (Below w5.heap.size w5 w6) := Lib.hid (((Below.refl _ _).alloc (Nat.le_refl _) _).trans (b6.mono (by simp)))
  have H6 := Lib.hid (H5.out.trans (D6.out.mono H5.out.size))
  have K2x6 := Lib.hid (heap_below D6.out (lt_heap K2x5.out) K2x5.out)
  clear K2x5
  have K4x6 := Lib.hid (heap_below D6.out (lt_heap K4x5.out) K4x5.out)
  clear K4x5
  clear f6 b6 ST5
  go_wp2_with (fail)
  refine (ONE.out 6 [[97]] _ 1 1 (w6.heap.size + 2) _ (by simp) (lies_new _ _ _ 1 (w6.heap.size + 1) (by simp) rfl rfl) rfl (Nat.le_refl _)).mono ?_
  rintro e w7 ⟨rfl, st7, b7, z7⟩
  have ST7 := Lib.hid st7
  have D7 : Hid (Below w6.heap.size w6 w7) := Lib.hid ((((Below.refl _ _).alloc (Nat.le_refl _) _).alloc (by simp) _).trans (b7.mono (by simp; omega)))
  have H7 := Lib.hid (H6.out.trans (D7.out.mono H6.out.size))
  have K6x7 := Lib.hid (heap_below b7 (by simp; omega) (heap_alloc_lt (heap_alloc_new w6 _)))
  have K2x7 := Lib.hid (heap_below D7.out (lt_heap K2x6.out) K2x6.out)
  clear K2x6
  have K4x7 := Lib.hid (heap_below D7.out (lt_heap K4x6.out) K4x6.out)
  clear K4x6
  clear st7 b7 z7
  go_wp2_with (fail)
  refine (run4 _ _ (EV.out _ (H7.out.alloc H7.out.size _)) (loop_new w7 99 _ _ 1 1 w7.heap.size rfl ST7.out (Nat.le_refl _))).mono ?_
  rintro e w8 ⟨A8, c8, rfl, f8, b8⟩
  have D8 : Hid (Below w7.heap.size w7 w8) := Lib.hid (((Below.refl _ _).alloc (Nat.le_refl _) _).trans (b8.mono (by simp)))
  have H8 := Lib.hid (H7.out.trans (D8.out.mono H7.out.size))
  have K2x8 := Lib.hid (heap_below D8.out (lt_heap K2x7.out) K2x7.out)
  clear K2x7
  have K4x8 := Lib.hid (heap_below D8.out (lt_heap K4x7.out) K4x7.out)
  clear K4x7
  have K6x8 := Lib.hid (heap_below D8.out (lt_heap K6x7.out) K6x7.out)
  clear K6x7
  clear f8 b8 ST7
  go_wp2_with (fail)
  refine (ONE.out 2 [[97], [98]] _ 2 2 (w8.heap.size + 2) _ (by simp) (lies_new _ _ _ 2 (w8.heap.size + 1) (by simp) rfl rfl) rfl (Nat.le_refl _)).mono ?_
  rintro e w9 ⟨rfl, st9, b9, z9⟩
  have ST9 := Lib.hid st9
  have D9 : Hid (Below w8.heap.size w8 w9) := Lib.hid ((((Below.refl _ _).alloc (Nat.le_refl _) _).alloc (by simp) _).trans (b9.mono (by simp; omega)))
  have H9 := Lib.hid (H8.out.trans (D9.out.mono H8.out.size))
  have K8x9 := Lib.hid (heap_below b9 (by simp; omega) (heap_alloc_lt (heap_alloc_new w8 _)))
  have K2x9 := Lib.hid (heap_below D9.out (lt_heap K2x8.out) K2x8.out)
  clear K2x8
  have K4x9 := Lib.hid (heap_below D9.out (lt_heap K4x8.out) K4x8.out)
  clear K4x8
  have K6x9 := Lib.hid (heap_below D9.out (lt_heap K6x8.out) K6x8.out)
  clear K6x8
  clear st9 b9 z9
  go_wp2_with (fail)
  refine (run5 w9 _ (EV.out _ H9.out) ST9.out).mono ?_
  rintro e w10 ⟨A10, c10, rfl, f10, b10⟩
  have D10 : Hid (Below w9.heap.size w9 w10) := Lib.hid (b10)
  have H10 := Lib.hid (H9.out.trans (D10.out.mono H9.out.size))
  have K2x10 := Lib.hid (heap_below D10.out (lt_heap K2x9.out) K2x9.out)
  clear K2x9
  have K4x10 := Lib.hid (heap_below D10.out (lt_heap K4x9.out) K4x9.out)
  clear K4x9
  have K6x10 := Lib.hid (heap_below D10.out (lt_heap K6x9.out) K6x9.out)
  clear K6x9
  have K8x10 := Lib.hid (heap_below D10.out (lt_heap K8x9.out) K8x9.out)
  clear K8x9
  clear f10 b10 ST9
  go_upto_region 6 with (fail)
  obtain ⟨V, eV⟩ : ∃ V, V = w10.alloc (.cells #[.int .i64 3, .slice A10 0 c10, .string ⟨#[]⟩, .int .i64 17, .string ⟨#[97]⟩, .int .i64 1] 50) := ⟨_, rfl⟩
  rw [← eV]
  have dV : Below w10.heap.size w10 V := by rw [eV]; exact (Below.refl _ _).alloc (Nat.le_refl _) _
  have k10 : V.heap[w10.heap.size]? = some (.cells #[.int .i64 3, .slice A10 0 c10, .string ⟨#[]⟩, .int .i64 17, .string ⟨#[97]⟩, .int .i64 1] 50 (0, 0)) := by rw [eV]; exact heap_alloc_new w10 _
  have HV := Lib.hid (H10.out.trans (dV.mono H10.out.size))
  have s3 := D3.out.size
  have s4 := D4.out.size
  have s5 := D5.out.size
  have s6 := D6.out.size
  have s7 := D7.out.size
  have s8 := D8.out.size
  have s9 := D9.out.size
  have s10 := D10.out.size
  have sV := dV.size
  have E2 : Below w2.heap.size w2 V := D3.out.trans ((D4.out.mono s3).trans ((D5.out.mono (by omega)).trans ((D6.out.mono (by omega)).trans ((D7.out.mono (by omega)).trans ((D8.out.mono (by omega)).trans ((D9.out.mono (by omega)).trans ((D10.out.mono (by omega)).trans (dV.mono (by omega)))))))))
  have k2 := heap_below dV (lt_heap K2x10.out) K2x10.out
  have k4 := heap_below dV (lt_heap K4x10.out) K4x10.out
  have k6 := heap_below dV (lt_heap K6x10.out) K6x10.out
  have k8 := heap_below dV (lt_heap K8x10.out) K8x10.out
  have CF : Hid (∀ W, Below V.heap.size V W → (W.cell? ⟨w2.heap.size, 0, none⟩ = some (.int .i64 1) ∧ W.cell? ⟨w2.heap.size, 5, none⟩ = some (.int .i64 2) ∧ W.cell? ⟨w2.heap.size, 1, none⟩ = some (.slice A2 1 c2)) ∧
      (W.cell? ⟨w4.heap.size, 0, none⟩ = some (.int .i64 2) ∧ W.cell? ⟨w4.heap.size, 2, none⟩ = some (.string ⟨#[116]⟩) ∧ W.cell? ⟨w4.heap.size, 5, none⟩ = some (.int .i64 1)) ∧
      (W.cell? ⟨w6.heap.size, 0, none⟩ = some (.int .i64 1) ∧ W.cell? ⟨w6.heap.size, 5, none⟩ = some (.int .i64 1)) ∧ (W.cell? ⟨w8.heap.size, 3, none⟩ = some (.int .i64 34) ∧ W.cell? ⟨w8.heap.size, 5, none⟩ = some (.int .i64 50)) ∧
      (W.cell? ⟨w10.heap.size, 3, none⟩ = some (.int .i64 17) ∧ W.cell? ⟨w10.heap.size, 4, none⟩ = some (.string ⟨#[97]⟩))) := Lib.hid fun W hW => by
    have q2 := heap_below hW (lt_heap k2) k2
    have q4 := heap_below hW (lt_heap k4) k4
    have q6 := heap_below hW (lt_heap k6) k6
    have q8 := heap_below hW (lt_heap k8) k8
    have q10 := heap_below hW (lt_heap k10) k10
    exact ⟨⟨(cell_heap q2 0).trans rfl, (cell_heap q2 5).trans rfl, (cell_heap q2 1).trans rfl⟩, ⟨(cell_heap q4 0).trans rfl, (cell_heap q4 2).trans rfl, (cell_heap q4 5).trans rfl⟩, ⟨(cell_heap q6 0).trans rfl, (cell_heap q6 5).trans rfl⟩, ⟨(cell_heap q8 3).trans rfl, (cell_heap q8 5).trans rfl⟩, (cell_heap q10 3).trans rfl, (cell_heap q10 4).trans rfl⟩
  have SM : Hid (Calls Tryz.prog 24 #[.slice A2 1 c2, .slice (some ⟨V.heap.size, 0, none⟩) 1 1] (V.alloc (.cells #[.string ⟨#[97]⟩, .string ⟨#[120, 10]⟩] 59)) fun e w' => e = .returned (.bool true) ∧ Below (V.alloc (.cells #[.string ⟨#[97]⟩, .string ⟨#[120, 10]⟩] 59)).heap.size (V.alloc (.cells #[.string ⟨#[97]⟩, .string ⟨#[120, 10]⟩] 59)) w') := Lib.hid (by
    have e2 : Below w2.heap.size w2 (V.alloc (.cells #[.string ⟨#[97]⟩, .string ⟨#[120, 10]⟩] 59)) := E2.alloc (by omega) _
    have := Fs.rsameF_any A2 (some ⟨V.heap.size, 0, none⟩) [⟨bs [97], bs [120, 10]⟩] [⟨bs [97], bs [120, 10]⟩] c2 1 (V.alloc (.cells #[.string ⟨#[97]⟩, .string ⟨#[120, 10]⟩] 59)) (by decide) (by decide) ((F2.out.below e2).more e2.size)
      ⟨rfl, fun _ => ⟨_, rfl, by simp, fun j u hu => by rw [Lg.add_eq, cell_heap (heap_alloc_new V _)]; rw [fc_one] at hu; simpa [bs] using hu⟩⟩
    rw [decide_eq_true rfl] at this
    exact this)
  clear eV k10 k2 k4 k6 k8 E2 s3 s4 s5 s6 s7 s8 s9 s10 sV dV
  obtain ⟨⟨a0, a1, a2⟩, ⟨a3, a4, a5⟩, ⟨a6, a7⟩, ⟨a8, a9⟩, a10, a11⟩ := CF.out V (Below.refl _ _)
  go_wp2_with (go_at_call 24; (with_reducible refine (SM.out).mono ?_); rintro e w11 ⟨rfl, b11⟩; have h11 : Below V.heap.size V w11 := ((Below.refl _ _).alloc (Nat.le_refl _) _).trans (b11.mono (by simp)); clear a0 a1 a2 a3 a4 a5 a6 a7 a8 a9 a10 a11; obtain ⟨⟨a0, a1, a2⟩, ⟨a3, a4, a5⟩, ⟨a6, a7⟩, ⟨a8, a9⟩, a10, a11⟩ := CF.out w11 h11)
  go_ret
  exact ⟨rfl, HV.out.trans (h11.mono HV.out.size)⟩
end Go.Proofs.YtnheahologecfaaGreatDoor.Bx
