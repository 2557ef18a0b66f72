/- Joined by mkmerged.py: LgSw, LgPrP, LgSameB, LgRprint, LgRmem, LgRsA, LgRsB, LgRstep, LgRpB, LgPrint. -/
import Derived.Test.YtifiipmmgnmciaaGreatDoorMiKt
import Derived.Test.YtifiipmmgnmciaaGreatDoorMi08
import Derived.Test.YtifiipmmgnmciaaGreatDoorMi01
import Derived.Test.YtifiipmmgnmciaaGreatDoorMi05
import Derived.Test.YtifiipmmgnmciaaGreatDoorMiKm
import Derived.Deep.QuietTactic
import Derived.BigQuiet
import Derived.Deep.RegionWith
import Derived.Deep.CutRange
import Derived.Test.YtifiipmmgnmciaaGreatDoorMi07
import Derived.Test.YtifiipmmgnmciaaGreatDoorMi06
import Derived.Deep.RegionHeld3
/- LgSw, what a claim needs of it (prune.py). -/
namespace Go.Proofs.YtifiipmmgnmciaaGreatDoor.Lg
open Go.RowKit
set_option linter.unusedVariables false
set_option maxRecDepth 100000
theorem copyCheck_keep (B b : Nat) (bs : List Value) (w : World) (h : Lib.IsBuilder 217 5 B b bs w) :
    Calls Tryz.prog 189 #[.pointer (some ⟨b, 0, none⟩)] w fun e w' => e = .returned (.tuple #[]) ∧ (Lib.BuilderAt 217 5 B b (.pointer (some ⟨b, 0, none⟩)) bs w' ∧ Below B w w') ∧ ∀ k, k ≠ b → w'.heap[k]? = w.heap[k]? := by
  rcases h with h | h
  · refine (copyCheck_fresh b w h.cell0 h.shape h.frozen0).mono ?_
    rintro e w' ⟨rfl, rfl⟩
    exact ⟨rfl, ⟨h.used _, (Below.refl B w).setCell (p := ⟨b, 0, none⟩) h.1 _⟩, fun k hk => Below.heap_setCell w ⟨b, 0, none⟩ _ k hk⟩
  · refine (copyCheck_used b w h.cell0).mono ?_
    rintro e w' ⟨rfl, rfl⟩
    exact ⟨rfl, ⟨h, Below.refl B _⟩, fun _ _ => rfl⟩
set_option maxHeartbeats 2000000 in
theorem WriteString_keep (B b : Nat) (l : List UInt8) (S : ByteArray) (w : World) (h : SbAt B b l w) (hlen : l.length + S.size ≤ 140737488355328) (hBw : B ≤ w.heap.size) :
    Calls Tryz.prog 120 #[.pointer (some ⟨b, 0, none⟩), .string S] w fun e w' => e = .returned (.tuple #[.int .i64 S.size, .nilIface]) ∧ SbAt B b (l ++ S.data.toList) w' ∧ Below B w w' ∧
      ∀ k, k < w.heap.size → k ≠ b → (∀ cs fr, w.heap[k]? ≠ some (.cells cs 5 fr)) → w'.heap[k]? = w.heap[k]? := by
  have hS : (S.size : Int) ≤ 140737488355328 := by omega
  have CK := Lib.hid (copyCheck_keep B b _ _ h)
  clear h
  go_enter Tryz.func120, Tryz.ntmps120
  go_upto_region 2 with (go_at_call 189; ((with_reducible refine (CK.out).mono ?_); rintro e w1 ⟨rfl, ⟨h1, hb1⟩, hk1⟩))
  obtain ⟨hB, v, hbk, hown, hne⟩ := h1
  rw [show (Lib.byteCells l).length = l.length by simp [Lib.byteCells]] at hown
  have c0 : w1.cell? ⟨b, 0, none⟩ = some (.pointer (some ⟨b, 0, none⟩)) := by rw [Lib.cell_of_heap hbk]; rfl
  have c1 : w1.cell? ⟨b, 1, none⟩ = some v := by rw [Lib.cell_of_heap hbk]; rfl
  have hs1 : B ≤ w1.heap.size := Nat.le_trans hBw hb1.size
  have hlt : b < w1.heap.size := lt_heap hbk
  have HK := Lib.hid hk1
  clear hk1
  go_wp2_with (at_builtin; refine append_text rfl (.tmp 12) (.tmp 13) 215 9 rfl B 5 Tryz.underlying215 Tryz.underlying9 (by kernel_rfl) v l.length l rfl hown S rfl hlen hs1 hb1 ?_; intro v' w2 hown2 hb2 hoth; have hbk2 := (hoth b hlt (fun e => hne e.symm)).trans hbk; have d1 : w2.cell? ⟨b, 1, none⟩ = some v := (cell_heap hbk2 1).trans rfl; have f1 : w2.frozen? ⟨b, 1, none⟩ = false := frozen_heap hbk2 1; obtain ⟨p, m, c, rfl⟩ := own_form hown2; have HO := Lib.hid hoth; clear hoth)
  go_ret2
  refine ⟨rfl, Or.inr ?_, ?_, fun k hks hkb hku => ?_⟩
  · refine Lib.BuilderAt.put hB hbk2 ?_ (by decide)
    rw [show (Lib.byteCells (l ++ S.data.toList)).length = l.length + S.size by simp [Lib.byteCells]]
    exact hown2
  · exact hb2.setCell (p := ⟨b, 1, none⟩) hB _
  · rw [Below.heap_setCell _ ⟨b, 1, none⟩ _ k hkb]
    have hk1 := HK.out k hkb
    refine (HO.out k (Nat.lt_of_lt_of_le hks hb1.size) (fun e => ?_)).trans hk1
    rcases hown.2 with ⟨hv, _⟩ | ⟨g, cc, cur, hv, _, hh, _⟩
    · rw [hv] at e; cases e
    · rw [hv] at e
      injection e with e
      simp only at e
      subst e
      exact hku _ _ (hk1.symm.trans hh)
theorem own_later {w w' : World} {B : Nat} {e : TypeId} {size : Nat} {v : Value} {n : Nat} {xs : List Value} (h : w.ownsRow B e size v n xs) (k : Below w.heap.size w w') : w'.ownsRow B e size v n xs := by
  refine ⟨h.1, ?_⟩
  rcases h.2 with h0 | ⟨g, cap, cur, hv, hg, hc, h1, h2, h3, h4⟩
  · exact .inl h0
  · exact .inr ⟨g, cap, cur, hv, hg, heap_below k (lt_heap hc) hc, h1, h2, h3, h4⟩
theorem SbAt.later {w w' : World} {B b : Nat} {l : List UInt8} (h : SbAt B b l w) (k : Below w.heap.size w w') : SbAt B b l w' := by
  rcases h with ⟨hB, v, hb, ho, hn⟩ | ⟨hB, v, hb, ho, hn⟩
  · exact .inl ⟨hB, v, heap_below k (lt_heap hb) hb, own_later ho k, hn⟩
  · exact .inr ⟨hB, v, heap_below k (lt_heap hb) hb, own_later ho k, hn⟩
theorem bstring_any (B b : Nat) (l : List UInt8) (w : World) (h : SbAt B b l w) (hBw : B ≤ w.heap.size) :
    Calls Tryz.prog 116 #[.pointer (some ⟨b, 0, none⟩)] w fun e w' => e = .returned (.string (bs l)) ∧ Below B w w' := Tryz.Builder_String_any B b l w h hBw
def LpAt (w W : World) (bb gw : Nat) (wc : Array Value) (s : List UInt8) : Prop :=
  SbAt w.heap.size bb s W ∧ W.heap[gw]? = some (.cells wc 9 (0, 0)) ∧ Below w.heap.size w W ∧ bb ≠ gw
theorem LpAt.on {w W W' : World} {bb gw : Nat} {wc : Array Value} {s : List UInt8} (h : LpAt w W bb gw wc s) (hb : Below W.heap.size W W') : LpAt w W' bb gw wc s :=
  ⟨SbAt.later h.1 hb, heap_below hb (lt_heap h.2.1) h.2.1, h.2.2.1.trans (hb.mono h.2.2.1.size), h.2.2.2⟩
theorem LpAt.below {w W : World} {bb gw : Nat} {wc : Array Value} {s : List UInt8} (h : LpAt w W bb gw wc s) : Below w.heap.size w W := h.2.2.1
theorem LpAt.write {w W : World} {bb gw : Nat} {wc : Array Value} {s : List UInt8} (h : LpAt w W bb gw wc s) (S : ByteArray) (hl : s.length + S.size ≤ 140737488355328) :
    Calls Tryz.prog 120 #[.pointer (some ⟨bb, 0, none⟩), .string S] W fun e w' => e = .returned (.tuple #[.int .i64 S.size, .nilIface]) ∧ LpAt w w' bb gw wc (s ++ S.data.toList) ∧
      ∀ k cs, k ≠ bb → W.heap[k]? = some (.cells cs 186 (0, 0)) → w'.heap[k]? = some (.cells cs 186 (0, 0)) := by
  refine (WriteString_keep w.heap.size bb s S W h.1 hl h.2.2.1.size).mono ?_
  rintro e w' ⟨rfl, h1, h2, h3⟩
  refine ⟨rfl, ⟨h1, (h3 gw (lt_heap h.2.1) (fun e => h.2.2.2 e.symm) (fun cs fr e => ?_)).trans h.2.1, h.2.2.1.trans h2, h.2.2.2⟩, fun k cs hk hc => (h3 k (lt_heap hc) hk (fun cs fr e => ?_)).trans hc⟩
  · rw [h.2.1] at e
    injection e with e
    injection e with _ e
    exact absurd e (by decide)
  · rw [hc] at e
    injection e with e
    injection e with _ e
    exact absurd e (by decide)
end Go.Proofs.YtifiipmmgnmciaaGreatDoor.Lg
/- LgPrP, what a claim needs of it (prune.py). -/
namespace Go.Proofs.YtifiipmmgnmciaaGreatDoor.Lg
set_option linter.unusedVariables false
def argsW (args : List B) : B := args.flatMap fun a => 32 :: a
theorem join_args (w : B) : ∀ args : List B, joinB 32 (w :: args) = w ++ argsW args
  | [] => by simp [joinB, argsW]
  | a :: r => by
    rw [joinB, join_args a r]
    simp [argsW]
theorem len_args : ∀ args : List B, args.length ≤ (argsW args).length
  | [] => by simp
  | a :: r => by
    have := len_args r
    simp only [argsW, List.flatMap_cons, List.length_append, List.length_cons] at *
    omega
def printS (x : Stp) : B := wordOf x.op ++ argsW x.args ++ (if x.op = 9 then 32 :: Lib.itoa x.n else []) ++ [10] ++ (if x.op = 9 ∨ x.op = 10 then print x.block ++ [101, 110, 100, 10] else [])
theorem print_nil : print [] = [] := by simp [print, linesOf]
theorem print_cons (x : Stp) (r : List Stp) : print (x :: r) = printS x ++ print r := by
  obtain ⟨op, args, n, b⟩ := x
  rw [print, linesOf, printS, headW, join_args]
  by_cases h : op = 9 ∨ op = 10
  · simp [h, print, endW, List.flatMap_append, Stp.op, Stp.args, Stp.n, Stp.block]
    rfl
  · simp [h, print, Stp.op, Stp.args, Stp.n]
    rfl
theorem print_append : ∀ a b : List Stp, print (a ++ b) = print a ++ print b
  | [], b => by rw [print_nil]; rfl
  | x :: r, b => by rw [List.cons_append, print_cons, print_cons, print_append r b, List.append_assoc]
theorem print_take {l : List Stp} {k : Nat} (h : k < l.length) : print (l.take (k + 1)) = print (l.take k) ++ printS l[k] := by
  rw [List.take_add_one, List.getElem?_eq_getElem h, print_append]
  simp [print_cons, print_nil]
theorem print_take_le (l : List Stp) (k : Nat) : (print (l.take k)).length ≤ (print l).length := by
  have h := congrArg (fun l => (print l).length) (List.take_append_drop k l)
  simp only [print_append, List.length_append] at h
  omega
theorem print_at_le {l : List Stp} {k : Nat} (h : k < l.length) : (print (l.take k)).length + (printS l[k]).length ≤ (print l).length := by
  have := print_take_le l (k + 1)
  rw [print_take h, List.length_append] at this
  exact this
def numL : List Stp → Prop
  | [] => True
  | ⟨_, _, n, b⟩ :: r => (-9223372036854775808 ≤ n ∧ n ≤ 9223372036854775807) ∧ numL b ∧ numL r
theorem numL_at : ∀ {l : List Stp} {k : Nat} (h : k < l.length), numL l → (-9223372036854775808 ≤ (l[k]).n ∧ (l[k]).n ≤ 9223372036854775807) ∧ numL (l[k]).block
  | ⟨_, _, n, b⟩ :: r, 0, h, hl => by rw [numL] at hl; exact ⟨hl.1, hl.2.1⟩
  | ⟨_, _, n, b⟩ :: r, k + 1, h, hl => by
    rw [numL] at hl
    exact numL_at (l := r) (k := k) (by simpa using h) hl.2.2
theorem words_len : ∀ op, (wordOf op).length ≤ 5 := by
  intro op
  unfold wordOf
  split
  · next h =>
    obtain ⟨h1, h2⟩ := h
    obtain ⟨j, rfl⟩ : ∃ j : Nat, op = j := ⟨op.toNat, by omega⟩
    have hj : j ≤ 10 := by omega
    have : ∀ j, j ≤ 10 → (wordsL.getD j [63]).length ≤ 5 := by decide
    exact this j hj
  · decide
theorem len_print : ∀ l : List Stp, l.length ≤ (print l).length
  | [] => by simp
  | x :: r => by
    have := len_print r
    rw [print_cons, List.length_append]
    have : 1 ≤ (printS x).length := by simp only [printS, List.length_append, List.length_singleton]; omega
    simp only [List.length_cons]; omega
theorem printS_len (x : Stp) : (printS x).length = (wordOf x.op).length + (argsW x.args).length + (if x.op = 9 then 1 + (Lib.itoa x.n).length else 0) + 1 + (if x.op = 9 ∨ x.op = 10 then (print x.block).length + 4 else 0) := by
  unfold printS
  by_cases h : x.op = 9 <;> by_cases h2 : x.op = 10 <;> simp [h, h2] <;> omega
end Go.Proofs.YtifiipmmgnmciaaGreatDoor.Lg
/- LgSameB, what a claim needs of it (prune.py). -/
namespace Go.Proofs.YtifiipmmgnmciaaGreatDoor.Lg
open Go.RowKit
set_option linter.unusedVariables false
set_option maxRecDepth 100000
theorem Lies.text {w : World} {ok : Nat → Prop} {A : Option Addr} {l : List B} {n : Nat} (h : Lies w ok 1 A n (strV l)) (hn : n = l.length) {k : Nat} (hk : k < l.length) : ∃ ad, A = some ad ∧ w.cell? (ad.add k) = some (.string (bs l[k])) := by
  obtain ⟨ad, rfl, _, hc⟩ := h.2 (by omega)
  exact ⟨ad, rfl, hc k _ (by rw [List.getElem?_map, List.getElem?_eq_getElem hk]; rfl)⟩
theorem list_eq {a b : List B} (hl : a.length = b.length) (h : ∀ k (h1 : k < a.length) (h2 : k < b.length), k < a.length → a[k] = b[k]) : a = b :=
  List.ext_getElem hl fun k h1 h2 => h k h1 h2 h1
end Go.Proofs.YtifiipmmgnmciaaGreatDoor.Lg
/- LgRprint, what a claim needs of it (prune.py). -/
namespace Go.Proofs.YtifiipmmgnmciaaGreatDoor.Lg
open Go.RowKit
set_option linter.unusedVariables false
set_option maxRecDepth 100000
theorem Lies.lbelow {w w' : World} {ok : Nat → Prop} {size n : Nat} {A : Option Addr} {xs : List Value} (h : Lies w ok size A n xs) (hs : 0 < size) (hb : Below w.heap.size w w') : Lies w' ok size A n xs := h.mono hs fun b ho hl => ⟨ho, hb.block b hl⟩
theorem heap_lt2 {w : World} {g : Nat} {o : Obj} (h : w.heap[g]? = some o) : g < w.heap.size := by
  rcases Nat.lt_or_ge g w.heap.size with h2 | h2
  · exact h2
  · rw [Array.getElem?_eq_none h2] at h; cases h
theorem cell_on {w W : World} {p : Addr} {u : Value} (h : w.cell? p = some u) (hb : Below w.heap.size w W) : W.cell? p = some u := by
  refine (hb.cell ?_).trans h
  unfold World.cell? at h
  rcases Nat.lt_or_ge p.block w.heap.size with h1 | h1
  · exact h1
  · rw [Array.getElem?_eq_none h1] at h; cases h
end Go.Proofs.YtifiipmmgnmciaaGreatDoor.Lg
/- LgRmem, what a claim needs of it (prune.py). -/
namespace Go.Proofs.YtifiipmmgnmciaaGreatDoor.Lg
open Go.RowKit
set_option linter.unusedVariables false
def Slot (w : World) (b b' : Nat) (X : Nat → Prop) (v : Value) (out : List Stp) : Prop :=
  ∃ cells, w.ownsRow b 186 4 v out.length cells ∧ RowAt w (fun x => b ≤ x ∧ x < b' ∧ some x ≠ v.ownBlock ∧ ¬ X x) cells out ∧ ∀ g, v.ownBlock = some g → g < b' ∧ ¬ X g
inductive Fr (w : World) (X : Nat → Prop) (B0 : Nat) : Nat → List Frame → List Value → List Value → Prop
  | nil {b : Nat} : B0 ≤ b → Fr w X B0 b [] [] []
  | cons {b b' : Nat} {f : Frame} {fs : List Frame} {hc vs : List Value} {v : Value} {A : Option Addr} {k c : Nat} :
      Fr w X B0 b fs hc vs → b ≤ b' → Slot w b b' X v f.out → k = f.args.length → k ≤ c → Lies w (fun x => b ≤ x ∧ x < b' ∧ some x ≠ v.ownBlock ∧ ¬ X x) 1 A k (strV f.args) →
      Fr w X B0 b' (f :: fs) (hc ++ [.int .i64 f.op, .slice A k c, .int .i64 f.n, .slice none 0 0]) (vs ++ [v])
abbrev okS (b b' : Nat) (X : Nat → Prop) (v : Value) : Nat → Prop := fun x => b ≤ x ∧ x < b' ∧ some x ≠ v.ownBlock ∧ ¬ X x
end Go.Proofs.YtifiipmmgnmciaaGreatDoor.Lg
/- LgRsA, what a claim needs of it (prune.py). -/
namespace Go.Proofs.YtifiipmmgnmciaaGreatDoor.Lg
open Go.RowKit
set_option linter.unusedVariables false
set_option maxRecDepth 100000
end Go.Proofs.YtifiipmmgnmciaaGreatDoor.Lg
/- LgRsB, what a claim needs of it (prune.py). -/
namespace Go.Proofs.YtifiipmmgnmciaaGreatDoor.Lg
open Go.RowKit
set_option linter.unusedVariables false
set_option maxRecDepth 100000
end Go.Proofs.YtifiipmmgnmciaaGreatDoor.Lg
/- LgRstep, what a claim needs of it (prune.py). -/
namespace Go.Proofs.YtifiipmmgnmciaaGreatDoor.Lg
open Go.RowKit
set_option linter.unusedVariables false
set_option maxRecDepth 100000
end Go.Proofs.YtifiipmmgnmciaaGreatDoor.Lg
/- LgRpB, what a claim needs of it (prune.py). -/
namespace Go.Proofs.YtifiipmmgnmciaaGreatDoor.Lg
open Go.RowKit
set_option linter.unusedVariables false
set_option maxRecDepth 100000
theorem own_some {w : World} {B n size : Nat} {e : TypeId} {v : Value} {xs : List Value} (h : w.ownsRow B e size v n xs) (hn : 0 < n) : ∃ g c, v = .slice (some ⟨g, 0, none⟩) n c ∧ n ≤ c ∧ B ≤ g := by
  rcases h.2 with ⟨_, rfl⟩ | ⟨g, cap, cur, rfl, hB, _, h1, _⟩
  · omega
  · exact ⟨_, _, rfl, h1, hB⟩
def Res.is : Res → List Stp → Int → Prop
  | .ok out _, m, q => m = out ∧ q = 0
  | .err k, m, q => m = [] ∧ q = (k : Int)
end Go.Proofs.YtifiipmmgnmciaaGreatDoor.Lg
/- LgPrint, what a claim needs of it (prune.py). -/
namespace Go.Proofs.YtifiipmmgnmciaaGreatDoor.Lg
open Go.RowKit
set_option linter.unusedVariables false
set_option maxRecDepth 100000
def wordsC : Array Value := (wordsV.map Value.string).toArray
theorem wordsC_at : ∀ {j : Nat}, j ≤ 10 → wordsC[j]? = some (.string (bs (wordsL.getD j [63])))
  | 0, _ => rfl | 1, _ => rfl | 2, _ => rfl | 3, _ => rfl | 4, _ => rfl | 5, _ => rfl | 6, _ => rfl | 7, _ => rfl | 8, _ => rfl | 9, _ => rfl | 10, _ => rfl
  | j + 11, h => absurd h (by omega)
theorem words_new (w : World) (hE : Env w) :
    Calls Tryz.prog 165 #[.string wordsB] w fun e w' => e = .returned (.slice (some ⟨w.heap.size, 0, none⟩) 11 11) ∧ w'.heap[w.heap.size]? = some (.cells wordsC 9 (0, 0)) ∧ Below w.heap.size w w' := by
  refine (Tryz.strings_Fields wordsB w (by decide) words_ascii hE.2.2.1).mono ?_
  rintro e w' ⟨h1, rfl⟩
  rw [fields_words] at h1 ⊢
  refine ⟨h1, ?_, (Below.refl _ _).alloc (Nat.le_refl _) _⟩
  have := heap_alloc_new w (.cells wordsC 9)
  rw [wordsC, wordsV, List.map_map] at this
  rw [wordsC, wordsV, List.map_map]
  exact this
theorem join_words (x : B) (args : List B) : Lib.join ((bs x :: args.map bs).map (·.data.toList)) [32] = x ++ argsW args := by
  rw [List.map_cons, Lib.join_cons]
  congr 1
  induction args with
  | nil => rfl
  | cons a r ih =>
    simp only [Lib.joinTail, argsW, List.map_cons, List.flatten_cons, List.flatMap_cons] at ih ⊢
    rw [ih]
    rfl
theorem tl_app2 (a b : ByteArray) : (a ++ b).data.toList = a.data.toList ++ b.data.toList := by simp
theorem LpAt.write2 {w W : World} {bb gw : Nat} {wc : Array Value} {s : List UInt8} (h : LpAt w W bb gw wc s) (S : ByteArray) (t : List UInt8) (ht : S.data.toList = t) (hl : s.length + t.length ≤ 140737488355328) :
    Calls Tryz.prog 120 #[.pointer (some ⟨bb, 0, none⟩), .string S] W fun e w' => e = .returned (.tuple #[.int .i64 S.size, .nilIface]) ∧ LpAt w w' bb gw wc (s ++ t) ∧
      ∀ k cs, k ≠ bb → W.heap[k]? = some (.cells cs 186 (0, 0)) → w'.heap[k]? = some (.cells cs 186 (0, 0)) := by
  subst ht
  exact h.write S (by rw [Lib.size_eq]; exact hl)
theorem itoa_env (v : Int) (h1 : -9223372036854775808 ≤ v) (h2 : v ≤ 9223372036854775807) (W : World) (hE : Env W) :
    Calls Tryz.prog 180 #[.int .i64 v] W fun e w' => e = .returned (.string (bs (Lib.itoa v))) ∧ Below W.heap.size W w' :=
  (Tryz.strconv_Itoa v h1 h2 W (Lib.tabBelow_of_tabIs hE.2.1 W (Below.refl _ _))).mono (fun e w' ⟨h3, k, os, h4⟩ => ⟨h3, by rw [h4]; exact Lib.below_grow _ _ (Nat.le_refl _) _ _⟩)
set_option maxHeartbeats 8000000 in
theorem print_any : ∀ (K : Nat) (l : List Stp), weight l ≤ K → numL l → (print l).length ≤ 4000000 → ∀ (A : Option Addr) (n c : Nat) (w : World) (ok : Nat → Prop), Env w → StepsAt w ok A n l →
    Calls Tryz.prog 169 #[.slice A n c] w fun e w' => e = .returned (.string (bs (print l))) ∧ Below w.heap.size w w' := by
  intro K
  induction K using Nat.strongRecOn with
  | ind K ih =>
    intro l hK hnum hlen A n c w ok hE hr
    obtain rfl : n = l.length := hr.1
    have hlw := len_weight l
    have hlp6 : l.length ≤ 4000000 := Nat.le_trans (len_print l) hlen
    have SR := Lib.hid (fun W (h : Below w.heap.size w W) => hr.below h)
    have EV := Lib.hid (fun W (h : Below w.heap.size w W) => hE.below h)
    have NUM := Lib.hid hnum
    have WN := Lib.hid (words_new w hE)
    clear hr hnum hE
    go_enter Tryz.func169, Tryz.ntmps169
    go_wp2_with (go_at_call 165; (with_reducible refine (WN.out).mono ?_); rintro e w1 ⟨rfl, hw1, hb1⟩)
    have hgl : w.heap.size < w1.heap.size := heap_lt2 hw1
    have P0 : LpAt w (w1.alloc (.cells #[.pointer none, .slice none 0 0] 217)) w1.heap.size w.heap.size wordsC [] :=
      ⟨Or.inl ⟨hb1.size, .slice none 0 0, heap_alloc_new w1 _, World.ownsRow_nil _ _ _ _, by simp [Value.ownBlock]⟩, (Below.heap_alloc _ _ _ hgl).trans hw1, hb1.alloc hb1.size _, by omega⟩
    have HP0 := Lib.hid P0
    clear P0 hw1 hb1
    go_loopw [11] (fun i wr => ∃ (k : Nat) (done : B), i = .int .i64 k ∧ k ≤ l.length ∧ done = print (l.take k) ∧ LpAt w wr w1.heap.size w.heap.size wordsC done ∧ w1.heap.size < wr.heap.size) (fun i _ => l.length - (intOf i).toNat)
    case atStart => exact ⟨0, [], rfl, by omega, print_nil.symm, HP0.out, by simp⟩
    case round =>
      obtain ⟨k, done, rfl, hk, hdone, hp, hbw⟩ := hrel
      rename World => wr
      have hb := hp.below
      have HP := Lib.hid hp
      have hlp := print_take_le l k
      rw [← hdone] at hlp
      clear HP0 hp
      by_cases hlt : k < l.length
      · have hkI : (k : Int) < (l.length : Int) := by omega
        obtain ⟨ad, A', ka, ca, B', kb, cb, rfl, a0, a1, a2, a3, a4, hac, a5, hbc, a6⟩ := (SR.out w (Below.refl _ _)).at_ hlt
        have a0 := cell_on a0 hb
        have a1 := cell_on a1 hb
        have a2 := cell_on a2 hb
        have a3 := cell_on a3 hb
        have hwb := weight_at hlt
        have hnm := numL_at hlt NUM.out
        have hps := print_at_le hlt
        have hpt := print_take hlt
        rw [← hdone] at hps hpt
        have IH := Lib.hid (fun (h0 : (print l[k].block).length ≤ 4000000) => ih (weight l[k].block) (by omega) l[k].block (Nat.le_refl _) hnm.2 h0)
        generalize l[k] = x at *
        have A1 : wr.cell? ⟨(ad.add (k * 4)).block, (ad.add (k * 4)).off + 1, none⟩ = some (.slice A' ka ca) := by rw [← add_of_add] at a1; exact a1
        have A2 : wr.cell? ⟨(ad.add (k * 4)).block, (ad.add (k * 4)).off + 2, none⟩ = some (.int .i64 x.n) := by rw [← add_of_add] at a2; exact a2
        have A3 : wr.cell? ⟨(ad.add (k * 4)).block, (ad.add (k * 4)).off + 3, none⟩ = some (.slice B' kb cb) := by rw [← add_of_add] at a3; exact a3
        subst a4
        have AR := Lib.hid (fun W (h : Below w.heap.size w W) => (a5.lbelow (by omega) h).reads (by omega))
        have BA := Lib.hid (fun W (h : Below w.heap.size w W) => a6.below h)
        have HPS := Lib.hid hps
        have HPT := Lib.hid hpt
        have HNM := Lib.hid hnm
        have HDN := Lib.hid hdone
        clear a1 a2 a3 a5 a6 ih hpt hnm hps hdone
        go_upto_region 6 with (fail)
        obtain ⟨W1, eW1⟩ : ∃ W1, W1 = wr.alloc (.cells #[.int .i64 x.op, .slice A' x.args.length ca, .int .i64 x.n, .slice B' kb cb] 186) := ⟨_, rfl⟩
        have hx1 : W1.heap[wr.heap.size]? = some (.cells #[.int .i64 x.op, .slice A' x.args.length ca, .int .i64 x.n, .slice B' kb cb] 186 (0, 0)) := by rw [eW1]; exact heap_alloc_new wr _
        have hb1 : Below wr.heap.size wr W1 := by rw [eW1]; exact (Below.refl _ _).alloc (Nat.le_refl _) _
        rw [← eW1]
        clear eW1
        have hs1 : wr.heap.size < W1.heap.size := heap_lt2 hx1
        have f0 : W1.cell? ⟨wr.heap.size, 0, none⟩ = some (.int .i64 x.op) := (cell_heap hx1 0).trans rfl
        have HP1 := Lib.hid (HP.out.on hb1)
        have HX1 := Lib.hid hx1
        clear hb1 hx1 a0 A1 A2 A3 HP
        go_cut [7] from 12 to 48 (fun v wx => (∃ M : Int, v = .int .i64 M ∧ ((11 ≤ M ∧ wordOf x.op = [63]) ∨ ∃ j : Nat, M = j ∧ j ≤ 10 ∧ wordsL.getD j [63] = wordOf x.op)) ∧ W1 = wx)
        case first =>
          go_wp2_with (fail)
          go_meet
          refine ⟨⟨_, rfl, ?_⟩, rfl⟩
          by_cases g1 : x.op < 0
          · rw [Int.max_eq_right (by omega)]
            refine .inr ⟨0, rfl, by omega, ?_⟩
            rw [wordOf, if_neg (by omega)]; rfl
          · rw [Int.max_eq_left (by omega)]
            by_cases h10 : x.op ≤ 10
            · obtain ⟨j, hj⟩ : ∃ j : Nat, x.op = j := ⟨x.op.toNat, by omega⟩
              refine .inr ⟨j, hj, by omega, ?_⟩
              rw [wordOf, hj]
              by_cases h0 : j = 0
              · subst h0; rfl
              · rw [if_pos (by omega)]; rfl
            · exact .inl ⟨by omega, by rw [wordOf, if_neg (by omega)]⟩
        case rest =>
          obtain ⟨⟨M, rfl, hM⟩, rfl⟩ := hcut
          go_upto_if 21 with (fail)
          go_cut [7] from 12 to 48 (fun v wx => (∃ j : Nat, v = .int .i64 j ∧ j ≤ 10 ∧ wordsL.getD j [63] = wordOf x.op) ∧ W1 = wx)
          case first =>
            rcases hM with ⟨h11, hw⟩ | ⟨j, rfl, hj, hw⟩
            · have HW := Lib.hid hw
              clear hw
              go_wp2_with (fail)
              go_meet
              exact ⟨⟨0, rfl, by omega, HW.out.symm⟩, rfl⟩
            · have HW := Lib.hid hw
              have hn11 : ¬ 11 ≤ (j : Int) := by omega
              clear hw
              go_wp2_with (fail)
              go_meet
              exact ⟨⟨j, rfl, hj, HW.out⟩, rfl⟩
          case rest =>
            obtain ⟨⟨j, rfl, hj, hw⟩, rfl⟩ := hcut
            clear hM
            have cw : W1.cell? ⟨w.heap.size, j, none⟩ = some (.string (bs (wordOf x.op))) := by rw [← hw]; exact (cell_heap HP1.out.2.1 j).trans (wordsC_at hj)
            have c1 : W1.cell? ⟨wr.heap.size, 1, none⟩ = some (.slice A' x.args.length ca) := (cell_heap HX1.out 1).trans rfl
            have c1a : ∀ o, (W1.alloc o).cell? ⟨wr.heap.size, 1, none⟩ = some (.slice A' x.args.length ca) := fun o => (cell_heap ((Below.heap_alloc _ _ _ hs1).trans HX1.out) 1).trans rfl
            have HL := HPS.out
            rw [printS_len] at HL
            have hwl := words_len x.op
            have HHL := Lib.hid HL
            have hla := len_args x.args
            have hd6 : done.length ≤ 4000000 := by omega
            have ha6 : x.args.length ≤ 4000000 := by omega
            have hJl : (wordOf x.op ++ argsW x.args).length ≤ 4000005 := by rw [List.length_append]; omega
            have HJL := Lib.hid hJl
            have j1 : (0 : Int) ≤ (j : Int) := by omega
            have j2 : (j : Int) < 11 := by omega
            have HWJ : Hid (wordsC[j]? = some (.string (bs (wordOf x.op)))) := Lib.hid (by rw [← hw]; exact wordsC_at hj)
            clear HL hwl hla hw hJl f0
            go_upto_region 9 with (fail)
            go_cut [] from 12 to 48 (fun wx => LpAt w wx w1.heap.size w.heap.size wordsC (done ++ (wordOf x.op ++ argsW x.args)) ∧ wx.heap[wr.heap.size]? = some (.cells #[.int .i64 x.op, .slice A' x.args.length ca, .int .i64 x.n, .slice B' kb cb] 186 (0, 0)))
            case first =>
              obtain ⟨i0, hi, hz0, hz1, hz2⟩ := info_parts infoS
              have OWN : ∀ W : World, W.heap[W1.heap.size]? = some (.cells #[.string (bs (wordOf x.op))] 9 (0, 0)) → W.ownsRow W1.heap.size 9 1 (.slice (some ⟨W1.heap.size, 0, none⟩) 1 1) 1 [.string (bs (wordOf x.op))] := fun W h => ⟨rfl, .inr ⟨W1.heap.size, 1, _, rfl, Nat.le_refl _, h, Nat.le_refl _, by unfold maxLen; decide, rfl, rfl⟩⟩
              have HOWN := Lib.hid OWN
              have ONES : Hid (∀ u ∈ strV x.args, u.oneCell' = true) := Lib.hid (fun u hu => by obtain ⟨a, _, rfl⟩ := List.mem_map.1 hu; rfl)
              have JN : Hid (∀ (W : World) (g c' : Nat), W.ownsRow W1.heap.size 9 1 (.slice (some ⟨g, 0, none⟩) (1 + x.args.length) c') (1 + x.args.length) ([.string (bs (wordOf x.op))] ++ strV x.args) → Calls Tryz.prog 226 #[.slice (some ⟨g, 0, none⟩) (1 + x.args.length) c', .string ⟨#[32]⟩] W fun e w' => e = .returned (.string (bs (wordOf x.op ++ argsW x.args))) ∧ Below W.heap.size W w') := Lib.hid (fun W g c' ho => by
                have hl : (bs (wordOf x.op) :: x.args.map bs).length = 1 + x.args.length := by simp; omega
                have hjl := HJL.out
                have hc : 1 + x.args.length ≤ c' := by
                  rcases ho.2 with ⟨h, _⟩ | ⟨_, _, _, h, _, _, h1, _⟩
                  · cases h
                  · injection h with _ _ h; omega
                have := Tryz.strings_Join g 0 c' (bs (wordOf x.op) :: x.args.map bs) ⟨#[32]⟩ W (fun i y hy => ?_) (own_block ho (g := g) rfl).2 (by rw [hl]; omega) (by rw [hl]; exact hc) (by rw [join_words]; omega)
                · rw [hl, join_words] at this
                  exact this
                · rw [Nat.zero_add]
                  have h2 := ho.cells (g := g) rfl i (.string y) (by
                    rw [List.singleton_append, strV_map, ← List.map_cons (f := Value.string)]
                    rw [List.getElem?_map, hy]; rfl)
                  rwa [add_eq] at h2)
              clear hj
              have hkA := And.intro cw c1
              have HLT : Hid (w.heap.size < W1.heap.size) := Lib.hid (by omega)
              have HNE : Hid (wr.heap.size ≠ w1.heap.size) := Lib.hid (by omega)
              have hkB : ∀ o, (W1.alloc o).cell? ⟨w.heap.size, j, none⟩ = some (.string (bs (wordOf x.op))) ∧ (W1.alloc o).cell? ⟨wr.heap.size, 1, none⟩ = some (.slice A' x.args.length ca) := fun o => ⟨(World.cell?_alloc_lt W1 o ⟨w.heap.size, j, none⟩ (by show w.heap.size < W1.heap.size; omega)).trans cw, c1a o⟩
              go_region_held3 (fun W => W.cell? ⟨w.heap.size, j, none⟩ = some (.string (bs (wordOf x.op))) ∧ W.cell? ⟨wr.heap.size, 1, none⟩ = some (.slice A' x.args.length ca)) (first | (with_reducible exact hkA) | (with_reducible exact hkB _) | (with_reducible exact hk2S) | (with_reducible exact hk3S) | (with_reducible exact ⟨hk4S.1, hk4S.2⟩) | go_keep) (first
                | (refine step_append_any _ rfl (.tmp 26) (.tmp 28) _ rfl W1.heap.size 9 i0 _ 1 16 Tryz.underlying32 hi hz0 hz1 hz2 rfl (by omega) (.slice (some ⟨W1.heap.size, 0, none⟩) 1 1) 1 [.string (bs (wordOf x.op))] rfl (HOWN.out _ (heap_alloc_new W1 _)) _ A' x.args.length ca (strV x.args) rfl (AR.out (W1.alloc (.cells #[.string (bs (wordOf x.op))] 9)) (HP1.out.below.alloc HP1.out.below.size _)) ONES.out (by simp only [maxLen]; omega) (by omega) (by simp) ?_; intro v2 w2 hown2 hg2 hat2; obtain ⟨g2, c2, rfl, hc2, hgb2⟩ := own_some hown2 (by omega); have G2 : (W1.alloc (.cells #[.string (bs (wordOf x.op))] 9)).grownBy w2 (Value.slice (some ⟨W1.heap.size, 0, none⟩) 1 1).ownBlock := ⟨hg2.os, hg2.tape, hg2.output, hg2.size, hg2.block⟩; have hb2 : Below W1.heap.size W1 w2 := ((Below.refl _ _).alloc (Nat.le_refl _) _).grown G2 (by simp) (fun k e => Nat.le_of_eq (Option.some.inj e)); have HP2 := Lib.hid (HP1.out.on hb2); have HX2 := Lib.hid ((hb2.block _ hs1).trans HX1.out); have JN2 := Lib.hid (JN.out w2 g2 c2 hown2); have hk2S := And.intro ((hb2.cell (p := ⟨w.heap.size, j, none⟩) HLT.out).trans cw) ((hb2.cell (p := ⟨wr.heap.size, 1, none⟩) hs1).trans c1); have HB2 := Lib.hid hb2; clear hown2 hg2 hat2 hb2 G2)
                | (go_at_call 226; (with_reducible refine (JN2.out).mono ?_); rintro e w3 ⟨rfl, hb3⟩; have HP3 := Lib.hid (HP2.out.on hb3); have HX3 := Lib.hid ((hb3.block _ (heap_lt2 HX2.out)).trans HX2.out); have WS3 := Lib.hid (HP3.out.write (bs (wordOf x.op ++ argsW x.args)) (by rw [bs_size]; have := HJL.out; omega)); have hb13 := HB2.out.trans (hb3.mono HB2.out.size); have hk3S := And.intro ((hb13.cell (p := ⟨w.heap.size, j, none⟩) HLT.out).trans cw) ((hb13.cell (p := ⟨wr.heap.size, 1, none⟩) hs1).trans c1); clear hb3 hb13)
                | (go_at_call 120; (with_reducible refine (WS3.out).mono ?_); rintro e w4 ⟨rfl, hp4, hk4⟩; have hk4S := And.intro ((cell_heap hp4.2.1 j).trans HWJ.out) ((cell_heap (hk4 _ _ HNE.out HX3.out) 1).trans rfl)))
              all_goals
                go_wp2_with (fail)
                go_meet
                exact ⟨hp4, hk4 _ _ (by omega) HX3.out⟩
            case rest =>
              -- TAIL
              obtain ⟨hp4, hx4⟩ := hcut
              clear HX1 HP1 AR cw c1 c1a HWJ HJL
              have HNE : Hid (wr.heap.size ≠ w1.heap.size) := Lib.hid (by omega)
              obtain ⟨s4, es4⟩ : ∃ s4, s4 = done ++ (wordOf x.op ++ argsW x.args) := ⟨_, rfl⟩
              have hs4 : s4.length = done.length + ((wordOf x.op).length + (argsW x.args).length) := by rw [es4]; simp only [List.length_append]
              rw [← es4] at hp4
              have HL := HHL.out
              have q40 : wc.cell? ⟨wr.heap.size, 0, none⟩ = some (.int .i64 x.op) := (cell_heap hx4 0).trans rfl
              have q42 : wc.cell? ⟨wr.heap.size, 2, none⟩ = some (.int .i64 x.n) := (cell_heap hx4 2).trans rfl
              have HP4 := Lib.hid hp4
              have HX4 := Lib.hid hx4
              clear hp4 hx4 HHL
              by_cases o9 : x.op = 9
              · have g9 : (x.op == 9) = true := by simp [o9]
                have go9 : opens x.op = true := by simp [opens, o9]
                have hT : s4.length + (1 + (Lib.itoa x.n).length) + 1 + (print x.block).length + 4 ≤ 4000000 := by rw [hs4]; simp only [if_pos o9, if_pos (Or.inl o9 : x.op = 9 ∨ x.op = 10)] at HL; omega
                have HS : Hid (s4 ++ (32 :: Lib.itoa x.n) ++ [10] ++ (print x.block ++ [101, 110, 100, 10]) = done ++ printS x) := Lib.hid (by rw [es4, printS]; simp only [if_pos o9, if_pos (Or.inl o9 : x.op = 9 ∨ x.op = 10)]; simp)
                have hlb : (print x.block).length ≤ 4000000 := by omega
                have hlP : (bs (print x.block)).size + (⟨#[101, 110, 100, 10]⟩ : ByteArray).size ≤ 9223372036854775807 := by rw [bs_size]; show _ + 4 ≤ _; omega
                obtain ⟨D, eD⟩ : ∃ D, D = bs (Lib.itoa x.n) := ⟨_, rfl⟩
                have hlD : (⟨#[32]⟩ : ByteArray).size + D.size ≤ 9223372036854775807 := by rw [eD, bs_size]; show 1 + _ ≤ _; omega
                have HDT : Hid ((⟨#[32]⟩ ++ D : ByteArray).data.toList = 32 :: Lib.itoa x.n) := Lib.hid (by rw [eD]; exact tl_app2 _ _)
                have IT : Hid (∀ W, Below w.heap.size w W → Calls Tryz.prog 180 #[.int .i64 x.n] W fun e w' => e = .returned (.string D) ∧ Below W.heap.size W w') := Lib.hid (fun W hW => by rw [eD]; exact itoa_env x.n HNM.out.1.1 HNM.out.1.2 W (EV.out W hW))
                clear hs4 es4 HL o9 eD
                go_wp2_with (first
                  | (go_at_call 180; (with_reducible refine (IT.out wc HP4.out.below).mono ?_); rintro e w5 ⟨rfl, hb5⟩; have hx5 := (hb5.block _ (heap_lt2 HX4.out)).trans HX4.out; have HP5 := Lib.hid (HP4.out.on hb5); have HX5 := Lib.hid hx5; clear hx5 hb5; have WS5 := Lib.hid (HP5.out.write2 (⟨#[32]⟩ ++ D) (32 :: Lib.itoa x.n) HDT.out (by simp only [List.length_cons]; omega)))
                  | (go_at_call 120; (with_reducible refine (WS5.out).mono ?_); rintro e w6 ⟨rfl, hp6, hk6⟩; have hx6 := hk6 _ _ HNE.out HX5.out; have HP6 := Lib.hid hp6; have HX6 := Lib.hid hx6; clear hx6 hp6 hk6; have WS6 := Lib.hid (HP6.out.write2 ⟨#[10]⟩ [10] rfl (by simp only [List.length_append, List.length_cons, List.length_nil]; omega)))
                  | (go_at_call 120; (with_reducible refine (WS6.out).mono ?_); rintro e w7 ⟨rfl, hp7, hk7⟩; have hx7 := hk7 _ _ HNE.out HX6.out; have q70 : w7.cell? ⟨wr.heap.size, 0, none⟩ = some (.int .i64 x.op) := (cell_heap hx7 0).trans rfl; have q71 : w7.cell? ⟨wr.heap.size, 1, none⟩ = some (.slice A' x.args.length ca) := (cell_heap hx7 1).trans rfl; have q72 : w7.cell? ⟨wr.heap.size, 2, none⟩ = some (.int .i64 x.n) := (cell_heap hx7 2).trans rfl; have q73 : w7.cell? ⟨wr.heap.size, 3, none⟩ = some (.slice B' kb cb) := (cell_heap hx7 3).trans rfl; have HP7 := Lib.hid hp7; have HX7 := Lib.hid hx7; clear hx7 hp7 hk7)
                  | (go_at_call 88; (with_reducible refine (begins_any x.op x.n A' B' x.args.length ca kb cb w7).mono ?_); rintro e w8 ⟨rfl, hb8⟩; have hx8 := (hb8.block _ (heap_lt2 HX7.out)).trans HX7.out; have HP8 := Lib.hid (HP7.out.on hb8); have q83 : w8.cell? ⟨wr.heap.size, 3, none⟩ = some (.slice B' kb cb) := (cell_heap hx8 3).trans rfl; have HX8 := Lib.hid hx8; clear hx8 hb8)
                  | (go_at_call 169; (with_reducible refine (IH.out hlb B' kb cb w8 ok (EV.out w8 HP8.out.below) (BA.out w8 HP8.out.below)).mono ?_); rintro e w9 ⟨rfl, hb9⟩; have hx9 := (hb9.block _ (heap_lt2 HX8.out)).trans HX8.out; have HP9 := Lib.hid (HP8.out.on hb9); have HX9 := Lib.hid hx9; clear hx9 hb9; have WS9 := Lib.hid (HP9.out.write2 (bs (print x.block) ++ ⟨#[101, 110, 100, 10]⟩) (print x.block ++ [101, 110, 100, 10]) (tl_app2 _ _) (by simp only [List.length_append, List.length_cons, List.length_nil]; omega)))
                  | (go_at_call 120; (with_reducible refine (WS9.out).mono ?_); rintro e w10 ⟨rfl, hp10, hk10⟩; have hx10 := hk10 _ _ HNE.out HX9.out; have HP10 := Lib.hid hp10; have HX10 := Lib.hid hx10; clear hx10 hp10 hk10))
                go_roundw
                case rel => exact ⟨k + 1, done ++ printS x, by go_num, by omega, HPT.out.symm, by rw [← HS.out]; exact HP10.out, by have := HP10.out.below.size; have := heap_lt2 HX10.out; omega⟩
                case measure => simp [intOf]; omega
              · by_cases o10 : x.op = 10
                · have g9 : (x.op == 9) = false := by simp [o9]
                  have go9 : opens x.op = true := by simp [opens, o10]
                  have hT : s4.length + 1 + (print x.block).length + 4 ≤ 4000000 := by rw [hs4]; simp only [if_neg o9, if_pos (Or.inr o10 : x.op = 9 ∨ x.op = 10)] at HL; omega
                  have HS : Hid (s4 ++ [10] ++ (print x.block ++ [101, 110, 100, 10]) = done ++ printS x) := Lib.hid (by rw [es4, printS]; simp only [if_neg o9, if_pos (Or.inr o10 : x.op = 9 ∨ x.op = 10)]; simp)
                  have hlb : (print x.block).length ≤ 4000000 := by omega
                  have hlP : (bs (print x.block)).size + (⟨#[101, 110, 100, 10]⟩ : ByteArray).size ≤ 9223372036854775807 := by rw [bs_size]; show _ + 4 ≤ _; omega
                  have WS4 := Lib.hid (HP4.out.write2 ⟨#[10]⟩ [10] rfl (by simp only [List.length_cons, List.length_nil]; omega))
                  clear hs4 es4 HL o9 o10
                  go_wp2_with (first
                    | (go_at_call 120; (with_reducible refine (WS4.out).mono ?_); rintro e w7 ⟨rfl, hp7, hk7⟩; have hx7 := hk7 _ _ HNE.out HX4.out; have q70 : w7.cell? ⟨wr.heap.size, 0, none⟩ = some (.int .i64 x.op) := (cell_heap hx7 0).trans rfl; have q71 : w7.cell? ⟨wr.heap.size, 1, none⟩ = some (.slice A' x.args.length ca) := (cell_heap hx7 1).trans rfl; have q72 : w7.cell? ⟨wr.heap.size, 2, none⟩ = some (.int .i64 x.n) := (cell_heap hx7 2).trans rfl; have q73 : w7.cell? ⟨wr.heap.size, 3, none⟩ = some (.slice B' kb cb) := (cell_heap hx7 3).trans rfl; have HP7 := Lib.hid hp7; have HX7 := Lib.hid hx7; clear hx7 hp7 hk7)
                    | (go_at_call 88; (with_reducible refine (begins_any x.op x.n A' B' x.args.length ca kb cb w7).mono ?_); rintro e w8 ⟨rfl, hb8⟩; have hx8 := (hb8.block _ (heap_lt2 HX7.out)).trans HX7.out; have HP8 := Lib.hid (HP7.out.on hb8); have q83 : w8.cell? ⟨wr.heap.size, 3, none⟩ = some (.slice B' kb cb) := (cell_heap hx8 3).trans rfl; have HX8 := Lib.hid hx8; clear hx8 hb8)
                    | (go_at_call 169; (with_reducible refine (IH.out hlb B' kb cb w8 ok (EV.out w8 HP8.out.below) (BA.out w8 HP8.out.below)).mono ?_); rintro e w9 ⟨rfl, hb9⟩; have hx9 := (hb9.block _ (heap_lt2 HX8.out)).trans HX8.out; have HP9 := Lib.hid (HP8.out.on hb9); have HX9 := Lib.hid hx9; clear hx9 hb9; have WS9 := Lib.hid (HP9.out.write2 (bs (print x.block) ++ ⟨#[101, 110, 100, 10]⟩) (print x.block ++ [101, 110, 100, 10]) (tl_app2 _ _) (by simp only [List.length_append, List.length_cons, List.length_nil]; omega)))
                    | (go_at_call 120; (with_reducible refine (WS9.out).mono ?_); rintro e w10 ⟨rfl, hp10, hk10⟩; have hx10 := hk10 _ _ HNE.out HX9.out; have HP10 := Lib.hid hp10; have HX10 := Lib.hid hx10; clear hx10 hp10 hk10))
                  go_roundw
                  case rel => exact ⟨k + 1, done ++ printS x, by go_num, by omega, HPT.out.symm, by rw [← HS.out]; exact HP10.out, by have := HP10.out.below.size; have := heap_lt2 HX10.out; omega⟩
                  case measure => simp [intOf]; omega
                · have g9 : (x.op == 9) = false := by simp [o9]
                  have go9 : opens x.op = false := by simp [opens, o9, o10]
                  have hT : s4.length + 1 ≤ 4000000 := by rw [hs4]; simp only [if_neg o9, if_neg (fun h => h.elim o9 o10 : ¬ (x.op = 9 ∨ x.op = 10))] at HL; omega
                  have HS : Hid (s4 ++ [10] = done ++ printS x) := Lib.hid (by rw [es4, printS]; simp only [if_neg o9, if_neg (fun h => h.elim o9 o10 : ¬ (x.op = 9 ∨ x.op = 10))]; simp)
                  have WS4 := Lib.hid (HP4.out.write2 ⟨#[10]⟩ [10] rfl (by simp only [List.length_cons, List.length_nil]; omega))
                  clear hs4 es4 HL o9 o10
                  go_wp2_with (first
                    | (go_at_call 120; (with_reducible refine (WS4.out).mono ?_); rintro e w7 ⟨rfl, hp7, hk7⟩; have hx7 := hk7 _ _ HNE.out HX4.out; have q70 : w7.cell? ⟨wr.heap.size, 0, none⟩ = some (.int .i64 x.op) := (cell_heap hx7 0).trans rfl; have q71 : w7.cell? ⟨wr.heap.size, 1, none⟩ = some (.slice A' x.args.length ca) := (cell_heap hx7 1).trans rfl; have q72 : w7.cell? ⟨wr.heap.size, 2, none⟩ = some (.int .i64 x.n) := (cell_heap hx7 2).trans rfl; have q73 : w7.cell? ⟨wr.heap.size, 3, none⟩ = some (.slice B' kb cb) := (cell_heap hx7 3).trans rfl; have HP7 := Lib.hid hp7; have HX7 := Lib.hid hx7; clear hx7 hp7 hk7)
                    | (go_at_call 88; (with_reducible refine (begins_any x.op x.n A' B' x.args.length ca kb cb w7).mono ?_); rintro e w8 ⟨rfl, hb8⟩; have hx8 := (hb8.block _ (heap_lt2 HX7.out)).trans HX7.out; have HP8 := Lib.hid (HP7.out.on hb8); have q83 : w8.cell? ⟨wr.heap.size, 3, none⟩ = some (.slice B' kb cb) := (cell_heap hx8 3).trans rfl; have HX8 := Lib.hid hx8; clear hx8 hb8))
                  go_roundw
                  case rel => exact ⟨k + 1, done ++ printS x, by go_num, by omega, HPT.out.symm, by rw [← HS.out]; exact HP8.out, by have := HP8.out.below.size; have := heap_lt2 HX8.out; omega⟩
                  case measure => simp [intOf]; omega
              -- /TAIL
      · obtain rfl : k = l.length := by omega
        rw [List.take_length] at hdone
        subst hdone
        have BS := Lib.hid (bstring_any w.heap.size w1.heap.size (print l) wr HP.out.1 hb.size)
        go_wp2_with (go_at_call 116; (with_reducible refine (BS.out).mono ?_); rintro e w5 ⟨rfl, hb5⟩)
        go_ret
        exact ⟨rfl, hb.trans hb5⟩
end Go.Proofs.YtifiipmmgnmciaaGreatDoor.Lg
