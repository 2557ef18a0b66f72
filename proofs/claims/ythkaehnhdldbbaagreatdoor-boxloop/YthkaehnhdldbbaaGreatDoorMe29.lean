/- Joined by mkmerged.py: BxOut, BxUpper, BxSorted. -/
import Derived.Test.YthkaehnhdldbbaaGreatDoorMe26
import Derived.Test.YthkaehnhdldbbaaGreatDoorMe28
import Derived.Test.YthkaehnhdldbbaaGreatDoorMe19
import Derived.Laws.IdiomStrings
import Derived.IntWalk
import Derived.Test.YthkaehnhdldbbaaGreatDoorMe20
import Derived.Test.YthkaehnhdldbbaaGreatDoorMe04
import Derived.Test.YthkaehnhdldbbaaGreatDoorMe05
import Derived.Lib.Join
/- BxOut, what a claim needs of it (prune.py). -/
namespace Go.Proofs.YthkaehnhdldbbaaGreatDoor.Bx
open Lg (Stp pathOk)
open Fs (B belowB)
set_option linter.unusedVariables false
set_option maxRecDepth 100000
def outf : B := [111, 117, 116, 47, 102]
theorem get_same (p : B) (x : ByteArray) (r : List Fl) : Fs.get (⟨bs p, x⟩ :: r) p = some x := by
  unfold Fs.get
  rw [List.find?_cons_of_pos (by simp [tlbs])]
  rfl
theorem with_one {p : B} (hp : pathOk p = true) (x : ByteArray) {d : B} (hd : d.length ≤ 2048) : withF [⟨bs p, x⟩] p d = ([⟨bs p, bs d⟩], 0) := by
  have ha : ([⟨bs p, x⟩] : List Fl).any (atP p) = true := by simp [atP, tlbs]
  have hf : ([⟨bs p, x⟩] : List Fl).findIdx (atP p) = 0 := by simp [List.findIdx_cons, atP, tlbs]
  have hput : putF [⟨bs p, x⟩] p d = [⟨bs p, bs d⟩] := by
    unfold putF
    rw [if_pos ha, hf]; rfl
  unfold withF
  rw [if_neg (by simp [hp]), if_neg (by omega), if_neg (by simp only [clashP, List.any_cons, List.any_nil, tlbs, below_self]; simp), hput, if_neg (by simp)]
variable {names : List B} {up so : B → B}
theorem one_write {fu : Nat} {p : B} (hp : pathOk p = true) (d : B) (mk : B → B) (hd : (mk d).length ≤ 2048) {u : Nat} (hu : u + (1 + ((mk d).length + 63) / 64) ≤ fu) :
    writes fu withF p [p] mk ⟨[⟨bs p, bs d⟩], u, 0, [], 0, []⟩ = ⟨[⟨bs p, bs (mk d)⟩], u + (1 + ((mk d).length + 63) / 64), 0, [], 0, []⟩ := by
  have hr : reads [⟨bs p, bs d⟩] [p] [] = .inr d := by
    rw [reads, get_same]; rfl
  unfold writes
  dsimp only
  rw [hr]
  dsimp only
  unfold spend
  rw [if_neg (by dsimp only; omega)]
  unfold lay
  dsimp only
  rw [with_one hp _ hd]
  rfl
theorem all_one {fu : Nat} {o n : Int} {a : List B} {b r : List Stp} {s t : St} (ho : s.kind = 0) (h : does fu withF withoutF names up so o a n (all fu withF withoutF names up so b) s = t) :
    all fu withF withoutF names up so (⟨o, a, n, b⟩ :: r) s = all fu withF withoutF names up so r t := by
  rw [all, if_neg (by unfold over; rw [ho]; simp), h]
theorem all_end {fu : Nat} {s : St} : all fu withF withoutF names up so [] s = s := by rw [all]
theorem outf_ok : pathOk outf = true := by kernel_rfl
theorem under_out (x : ByteArray) : Fs.under [⟨bs outf, x⟩] [111, 117, 116] = [⟨bs [102], x⟩] := by kernel_rfl
theorem does_up {fu : Nat} {a : List B} {n : Int} {f : St → St} {s : St} : does fu withF withoutF names up so 4 a n f s = writes fu withF (a.getD 0 []) a up s := by
  unfold does
  rw [if_neg (by decide), if_neg (by decide), if_neg (by decide), if_pos rfl]
theorem does_so {fu : Nat} {a : List B} {n : Int} {f : St → St} {s : St} : does fu withF withoutF names up so 5 a n f s = writes fu withF (a.getD 0 []) a so s := by
  unfold does
  rw [if_neg (by decide), if_neg (by decide), if_neg (by decide), if_neg (by decide), if_pos rfl]
theorem run_upper (d : B) (hd : d.length ≤ 2048) : ∃ u, run withF withoutF names upB so 99 [⟨4, [outf], 0, []⟩] [⟨bs outf, bs d⟩] = ⟨[⟨bs outf, bs (upB d)⟩], u, 0, [], 0, []⟩ := by
  have hl := upB_len d
  exact ⟨_, (all_one rfl (does_up.trans (one_write outf_ok d upB (by omega) (by omega)))).trans all_end⟩
theorem run_upper2 (d : B) (hd : d.length ≤ 2048) : ∃ u, run withF withoutF names upB so 99 [⟨4, [outf], 0, []⟩, ⟨4, [outf], 0, []⟩] [⟨bs outf, bs d⟩] = ⟨[⟨bs outf, bs (upB d)⟩], u, 0, [], 0, []⟩ := by
  have hl := upB_len d
  have hl2 := upB_len (upB d)
  have g1 := one_write (fu := 99) (u := 0) outf_ok d upB (by omega) (by omega)
  have g2 := one_write (fu := 99) (u := 0 + (1 + ((upB d).length + 63) / 64)) outf_ok (upB d) upB (by omega) (by omega)
  have h := (all_one (names := names) (up := upB) (so := so) (b := []) (n := 0) (r := [⟨4, [outf], 0, []⟩]) rfl ((does_up (a := [outf])).trans g1)).trans ((all_one (names := names) (up := upB) (so := so) (b := []) (n := 0) rfl ((does_up (a := [outf])).trans g2)).trans all_end)
  rw [upB_twice] at h
  exact ⟨_, h⟩
theorem full_len (s : B) : (full s).length ≤ s.length + 1 := by
  rw [full_eq]
  split
  · simp
  · split
    · omega
    · simp
theorem run_sort (d : B) (hd : d.length ≤ 2000) : ∃ u, run withF withoutF names up soB 99 [⟨5, [outf], 0, []⟩] [⟨bs outf, bs d⟩] = ⟨[⟨bs outf, bs (soB d)⟩], u, 0, [], 0, []⟩ := by
  have hl := so_len d
  have hf := full_len d
  exact ⟨_, (all_one rfl (does_so.trans (one_write outf_ok d soB (by omega) (by omega)))).trans all_end⟩
theorem run_sort2 (d : B) (hd : d.length ≤ 2000) : ∃ u, run withF withoutF names up soB 99 [⟨5, [outf], 0, []⟩, ⟨5, [outf], 0, []⟩] [⟨bs outf, bs d⟩] = ⟨[⟨bs outf, bs (soB d)⟩], u, 0, [], 0, []⟩ := by
  have hl := so_len d
  have hf := full_len d
  have hl2 : (soB (soB d)).length = (soB d).length := by rw [so_twice]
  have g1 := one_write (fu := 99) (u := 0) outf_ok d soB (by omega) (by omega)
  have g2 := one_write (fu := 99) (u := 0 + (1 + ((soB d).length + 63) / 64)) outf_ok (soB d) soB (by omega) (by omega)
  have h := (all_one (names := names) (up := up) (so := soB) (b := []) (n := 0) (r := [⟨5, [outf], 0, []⟩]) rfl ((does_so (a := [outf])).trans g1)).trans ((all_one (names := names) (up := up) (so := soB) (b := []) (n := 0) rfl ((does_so (a := [outf])).trans g2)).trans all_end)
  rw [so_twice] at h
  exact ⟨_, h⟩
def xs : Nat → B
  | 0 => []
  | k + 1 => [120, 10] ++ xs k
theorem xs_len : ∀ k, (xs k).length = 2 * k
  | 0 => rfl
  | k + 1 => by rw [xs, List.length_append, xs_len k]; simp; omega
def lP : B := [108]
def mP : B := [109]
def body : List Stp := [⟨3, [mP, lP, outf], 0, []⟩, ⟨2, [mP, outf], 0, []⟩]
def l0 : Fl := ⟨bs lP, bs [120, 10]⟩
def rnd : Nat → List Fl
  | 0 => [l0, ⟨bs outf, ⟨#[]⟩⟩]
  | k + 1 => [l0, ⟨bs mP, bs (xs (k + 1))⟩, ⟨bs outf, bs (xs (k + 1))⟩]
theorem with_m0 (d : B) (hd : d.length ≤ 2048) (x : ByteArray) : withF [l0, ⟨bs outf, x⟩] mP d = ([l0, ⟨bs mP, bs d⟩, ⟨bs outf, x⟩], 0) := by
  unfold withF
  rw [if_neg (by rw [show pathOk _ = true by kernel_rfl]; simp), if_neg (by omega)]
  have h1 : ([l0, ⟨bs outf, x⟩] : List Fl).any (fun g => clashP mP (tl g.p)) = false := by kernel_rfl
  have h2 : putF [l0, ⟨bs outf, x⟩] mP d = [l0, ⟨bs mP, bs d⟩, ⟨bs outf, x⟩] := by kernel_rfl
  rw [h1, h2, if_neg (by simp), if_neg (by simp)]
theorem with_m1 (d : B) (hd : d.length ≤ 2048) (x y : ByteArray) : withF [l0, ⟨bs mP, y⟩, ⟨bs outf, x⟩] mP d = ([l0, ⟨bs mP, bs d⟩, ⟨bs outf, x⟩], 0) := by
  unfold withF
  rw [if_neg (by rw [show pathOk _ = true by kernel_rfl]; simp), if_neg (by omega)]
  have h1 : ([l0, ⟨bs mP, y⟩, ⟨bs outf, x⟩] : List Fl).any (fun g => clashP mP (tl g.p)) = false := by kernel_rfl
  have h2 : putF [l0, ⟨bs mP, y⟩, ⟨bs outf, x⟩] mP d = [l0, ⟨bs mP, bs d⟩, ⟨bs outf, x⟩] := by kernel_rfl
  rw [h1, h2, if_neg (by simp), if_neg (by simp)]
theorem with_o (d : B) (hd : d.length ≤ 2048) (x y : ByteArray) : withF [l0, ⟨bs mP, y⟩, ⟨bs outf, x⟩] outf d = ([l0, ⟨bs mP, y⟩, ⟨bs outf, bs d⟩], 0) := by
  unfold withF
  rw [if_neg (by rw [show pathOk _ = true by kernel_rfl]; simp), if_neg (by omega)]
  have h1 : ([l0, ⟨bs mP, y⟩, ⟨bs outf, x⟩] : List Fl).any (fun g => clashP outf (tl g.p)) = false := by kernel_rfl
  have h2 : putF [l0, ⟨bs mP, y⟩, ⟨bs outf, x⟩] outf d = [l0, ⟨bs mP, y⟩, ⟨bs outf, bs d⟩] := by kernel_rfl
  rw [h1, h2, if_neg (by simp), if_neg (by simp)]
theorem does_cat {fu : Nat} {a : List B} {n : Int} {f : St → St} {s : St} : does fu withF withoutF names up so 3 a n f s = writes fu withF (a.getD 0 []) (a.drop 1) id s := by
  unfold does
  rw [if_neg (by decide), if_neg (by decide), if_pos rfl]
theorem does_copy {fu : Nat} {a : List B} {n : Int} {f : St → St} {s : St} : does fu withF withoutF names up so 2 a n f s = writes fu withF (a.getD 1 []) (a.take 1) id s := by
  unfold does
  rw [if_neg (by decide), if_pos rfl]
theorem does_put {fu : Nat} {a : List B} {n : Int} {f : St → St} {s : St} : does fu withF withoutF names up so 1 a n f s = writes fu withF (a.getD 0 []) [] (fun _ => a.getD 1 [] ++ [10]) s := by
  unfold does
  rw [if_pos rfl]
theorem does_loop {fu : Nat} {a : List B} {n : Int} {f : St → St} {s : St} : does fu withF withoutF names up so 9 a n f s = spend fu 1 (loopF f n.toNat) s := by
  unfold does
  rw [if_neg (by decide), if_neg (by decide), if_neg (by decide), if_neg (by decide), if_neg (by decide)]
  congr 1
theorem write_step {fu : Nat} {p : B} {rs : List B} {mk : B → B} {fs fs' : List Fl} {u : Nat} {d : B} (hr : reads fs rs [] = .inr d) (hu : u + (1 + ((mk d).length + 63) / 64) ≤ fu) (hw : withF fs p (mk d) = (fs', 0)) :
    writes fu withF p rs mk ⟨fs, u, 0, [], 0, []⟩ = ⟨fs', u + (1 + ((mk d).length + 63) / 64), 0, [], 0, []⟩ := by
  unfold writes
  dsimp only
  rw [hr]
  dsimp only
  unfold spend
  rw [if_neg (by dsimp only; omega)]
  unfold lay
  dsimp only
  rw [hw]
  rfl
theorem reads_rnd : ∀ k, reads (rnd k) [lP, outf] [] = .inr (xs (k + 1))
  | 0 => by kernel_rfl
  | k + 1 => by kernel_rfl
theorem one_round (k u : Nat) (hk : k < 40) (hu : u ≤ 3 + 6 * k) : ∃ u', u' ≤ 3 + 6 * (k + 1) ∧ all 2000 withF withoutF names up so body ⟨rnd k, u, 0, [], 0, []⟩ = ⟨rnd (k + 1), u', 0, [], 0, []⟩ := by
  have hx := xs_len (k + 1)
  have hx1 : u + (1 + ((xs (k + 1)).length + 63) / 64) ≤ 2000 := by omega
  have hx2 : (xs (k + 1)).length ≤ 2048 := by omega
  have hx3 : u + (1 + ((xs (k + 1)).length + 63) / 64) + (1 + ((xs (k + 1)).length + 63) / 64) ≤ 2000 := by omega
  have h1 : ∃ y, writes 2000 withF mP [lP, outf] id ⟨rnd k, u, 0, [], 0, []⟩ = ⟨[l0, ⟨bs mP, bs (xs (k + 1))⟩, ⟨bs outf, y⟩], u + (1 + ((xs (k + 1)).length + 63) / 64), 0, [], 0, []⟩ := by
    rcases k with _ | k
    · exact ⟨_, write_step (mk := id) (reads_rnd 0) hx1 (with_m0 _ hx2 _)⟩
    · exact ⟨_, write_step (mk := id) (reads_rnd (k + 1)) hx1 (with_m1 _ hx2 _ _)⟩
  obtain ⟨y, h1⟩ := h1
  have h2 : writes 2000 withF outf [mP] id ⟨[l0, ⟨bs mP, bs (xs (k + 1))⟩, ⟨bs outf, y⟩], u + (1 + ((xs (k + 1)).length + 63) / 64), 0, [], 0, []⟩ = ⟨rnd (k + 1), u + (1 + ((xs (k + 1)).length + 63) / 64) + (1 + ((xs (k + 1)).length + 63) / 64), 0, [], 0, []⟩ :=
    write_step (mk := id) (d := xs (k + 1)) (by kernel_rfl) hx3 (with_o _ hx2 _ _)
  refine ⟨u + (1 + ((xs (k + 1)).length + 63) / 64) + (1 + ((xs (k + 1)).length + 63) / 64), by omega, ?_⟩
  unfold body
  rw [all_one rfl ((does_cat (a := [mP, lP, outf])).trans h1), all_one rfl ((does_copy (a := [mP, outf])).trans h2), all_end]
theorem loop_rounds : ∀ (n k u : Nat), n + k ≤ 40 → u ≤ 3 + 6 * k → ∃ u', loopF (all 2000 withF withoutF names up so body) n ⟨rnd k, u, 0, [], 0, []⟩ = ⟨rnd (k + n), u', 0, [], 0, []⟩
  | 0, k, u, _, _ => ⟨u, rfl⟩
  | n + 1, k, u, h, hu => by
    obtain ⟨u1, h1, h2⟩ := one_round (names := names) (up := up) (so := so) k u (by omega) hu
    obtain ⟨u2, h3⟩ := loop_rounds n (k + 1) u1 (by omega) h1
    refine ⟨u2, ?_⟩
    rw [loopF, h2, if_neg (by simp [over]), h3, show k + 1 + n = k + (n + 1) by omega]
def looped (n : Int) : List Stp := [⟨1, [lP, [120]], 0, []⟩, ⟨9, [], n, body⟩]
theorem run_loop (n : Nat) (hn : n ≤ 40) : ∃ u, run withF withoutF names up so 2000 (looped n) [⟨bs outf, ⟨#[]⟩⟩] = ⟨rnd n, u, 0, [], 0, []⟩ := by
  have h1 : writes 2000 withF lP [] (fun _ => [120] ++ [10]) ⟨[⟨bs outf, ⟨#[]⟩⟩], 0, 0, [], 0, []⟩ = ⟨rnd 0, 2, 0, [], 0, []⟩ :=
    write_step (mk := fun _ => [120] ++ [10]) (d := []) (by kernel_rfl) (by simp) (by kernel_rfl)
  obtain ⟨u, h2⟩ := loop_rounds (names := names) (up := up) (so := so) n 0 3 (by omega) (by omega)
  refine ⟨u, ?_⟩
  unfold run start looped
  rw [all_one rfl (does_put.trans h1)]
  have h3 : spend 2000 1 (loopF (all 2000 withF withoutF names up so body) (n : Int).toNat) ⟨rnd 0, 2, 0, [], 0, []⟩ = ⟨rnd n, u, 0, [], 0, []⟩ := by
    unfold spend
    rw [if_neg (by simp)]
    rw [Nat.zero_add] at h2
    exact h2
  rw [all_one rfl (does_loop.trans h3), all_end]
theorem under_rnd : ∀ n, Fs.under (rnd n) [111, 117, 116] = [⟨bs [102], bs (xs n)⟩]
  | 0 => by kernel_rfl
  | n + 1 => by kernel_rfl
end Go.Proofs.YthkaehnhdldbbaaGreatDoor.Bx
/- BxUpper, what a claim needs of it (prune.py). -/
namespace Go.Proofs.YthkaehnhdldbbaaGreatDoor.Bx
open Go.RowKit
open Fs (B)
set_option linter.unusedVariables false
set_option maxRecDepth 100000
theorem frozen_row {w : World} {b : Nat} {cs : Array Value} {T : TypeId} {m : Nat} (hb : w.heap[b]? = some (.cells cs T (m, m + 1))) {j : Nat} (hj : j < m) : w.frozen? ⟨b, j, none⟩ = false := by
  simp [World.frozen?, hb]; omega
theorem upC_yes {c : UInt8} (h1 : 97 ≤ c.toNat) (h2 : c.toNat ≤ 122) : ((upC c).toNat : Int) = (c.toNat : Int) - 97 + 65 := by
  unfold upC
  rw [if_pos ⟨h1, h2⟩, UInt8.toNat_sub_of_le]
  · show ((c.toNat - 32 : Nat) : Int) = _; omega
  · rw [UInt8.le_iff_toNat_le]; show 32 ≤ c.toNat; omega
theorem upC_not {c : UInt8} (h : ¬ (97 ≤ c.toNat ∧ c.toNat ≤ 122)) : upC c = c := by unfold upC; rw [if_neg h]
def UpTo (s : ByteArray) (k : Nat) (cur : Array Value) : Prop := ∀ j (hj : j < s.size), cur[j]? = some (.int .u8 ((if j < k then upC s[j] else s[j]).toNat : Int))
theorem UpTo.next {s : ByteArray} {k : Nat} {cur : Array Value} (h : UpTo s k cur) (hk : k < s.size) (hc : s.size ≤ cur.size) : UpTo s (k + 1) (cur.setIfInBounds k (.int .u8 ((upC s[k]).toNat : Int))) := fun j hj => by
  by_cases e : k = j
  · subst e
    rw [Array.getElem?_setIfInBounds_self_of_lt (by omega), if_pos (by omega)]
  · rw [Array.getElem?_setIfInBounds_ne e, h j hj]
    by_cases h2 : j < k
    · rw [if_pos h2, if_pos (by omega)]
    · rw [if_neg h2, if_neg (by omega)]
theorem UpTo.same {s : ByteArray} {k : Nat} {cur : Array Value} (h : UpTo s k cur) (hk : k < s.size) (he : upC s[k] = s[k]) : UpTo s (k + 1) cur := fun j hj => by
  rw [h j hj]
  by_cases e : k = j
  · subst e
    rw [if_neg (by omega), if_pos (by omega), he]
  · by_cases h2 : j < k
    · rw [if_pos h2, if_pos (by omega)]
    · rw [if_neg h2, if_neg (by omega)]
def UpRow (s : ByteArray) (g m : Nat) (w W : World) (k : Nat) : Prop := (∃ cur, W.heap[g]? = some (.cells cur 5 (m, m + 1)) ∧ cur.size = m ∧ UpTo s k cur) ∧ Below w.heap.size w W
theorem bytes_at {s : ByteArray} {G j : Nat} (hj : j < s.size) : (bytesRow s G)[j]? = some (.int .u8 (s[j].toNat : Int)) := by
  unfold bytesRow
  rw [Array.getElem?_append_left (by rw [Array.size_map]; exact hj), Array.getElem?_map]
  have : s.data[j]? = some s[j] := Array.getElem?_eq_getElem hj
  rw [this]; rfl
theorem up_list {s : ByteArray} {cur : Array Value} (h : UpTo s s.size cur) {w : World} {g m : Nat} (hg : w.heap[g]? = some (.cells cur 5 (m, m + 1))) : ∀ j (hj : j < (upB (tl s)).length), w.cell? ((⟨g, 0, none⟩ : Addr).add j) = some (.int .u8 ((upB (tl s))[j].toNat : Int)) := fun j hj => by
  have hl : (upB (tl s)).length = s.size := by rw [upB_len, Fs.tl_len]
  rw [Lg.add_eq, cell_heap hg, h j (by omega), if_pos (by omega)]
  have e : (upB (tl s))[j] = upC (s[j]'(by omega)) := List.getElem_map upC
  rw [e]
set_option maxHeartbeats 2000000 in
theorem upper_any (s : ByteArray) (w : World) (hs : s.size ≤ 1000000) :
    Calls Tryz.prog 121 #[.string s] w fun e w' => e = .returned (.string (bs (upB (tl s)))) ∧ Below w.heap.size w w' := by
  obtain ⟨G, hG⟩ : ∃ G, G = grownCap w s.size 0 5 := ⟨_, rfl⟩
  obtain ⟨ROW, hROW⟩ : ∃ ROW, ROW = bytesRow s G := ⟨_, rfl⟩
  obtain ⟨W1, eW⟩ : ∃ W1, W1 = w.drew.alloc (.cells ROW 5 (ROW.size, ROW.size + 1)) := ⟨_, rfl⟩
  have CV : (convert 9 97 (.string s)).run Tryz.prog w = .ok (.slice (some ⟨w.heap.size, 0, none⟩) s.size G) W1 := by
    rw [run_bytes_of_string w _ _ 5 s Tryz.underlying9 Tryz.underlying97 Tryz.underlying5, ← hG, ← hROW, ← eW]
  have hRs : s.size ≤ ROW.size := by rw [hROW]; simp [bytesRow]
  have R0 : Hid (UpRow s w.heap.size ROW.size w W1 0) := Lib.hid (by
    refine ⟨⟨ROW, by rw [eW]; exact heap_alloc_new w.drew _, rfl, fun j hj => ?_⟩, by rw [eW]; exact (Below.refl _ _).drew.alloc (Nat.le_refl _) _⟩
    rw [if_neg (by omega), hROW]
    exact bytes_at hj)
  clear eW hROW hG
  generalize ROW.size = m at *
  go_enter Tryz.func121, Tryz.ntmps121
  go_wp2_with (fail)
  go_loopw [10] (fun i W => ∃ k : Nat, i = .int .i64 k ∧ k ≤ s.size ∧ UpRow s w.heap.size m w W k) (fun i _ => s.size - (intOf i).toNat)
  case atStart => exact ⟨0, rfl, by omega, R0.out⟩
  case round =>
    obtain ⟨k, rfl, hk, ⟨cur, hh, hcm, hu⟩, hb⟩ := hrel
    have HU := Lib.hid hu
    have HB := Lib.hid hb
    have HH := Lib.hid hh
    clear hu hb R0 CV
    by_cases hlt : k < s.size
    · have hkI : (k : Int) < (s.size : Int) := by omega
      have hck := HU.out k hlt
      rw [if_neg (by omega)] at hck
      have c0 : wr.cell? ⟨w.heap.size, k, none⟩ = some (.int .u8 (s[k].toNat : Int)) := (cell_heap hh k).trans hck
      have f0 := frozen_row hh (j := k) (by omega)
      have NX := Lib.hid (HU.out.next hlt (by omega))
      have SM := Lib.hid (HU.out.same hlt)
      clear hh hck
      by_cases h1 : 97 ≤ s[k].toNat
      · by_cases h2 : s[k].toNat ≤ 122
        · have e := upC_yes h1 h2
          rw [e] at NX
          have g1 : (97 : Int) ≤ (s[k].toNat : Int) := by omega
          have g2 : (s[k].toNat : Int) ≤ 122 := by omega
          clear e SM
          generalize (s[k].toNat : Int) = q at *
          go_wp2_with (fail)
          go_roundw
          case rel => exact ⟨k + 1, by go_num, by omega, ⟨_, heap_set HH.out, by simp [hcm], NX.out⟩, HB.out.setCell (p := ⟨w.heap.size, k, none⟩) (Nat.le_refl _) _⟩
          case measure => simp [intOf]; omega
        · have F := Lib.hid (SM.out (upC_not (fun h => h2 h.2)))
          have g1 : (97 : Int) ≤ (s[k].toNat : Int) := by omega
          have g2 : ¬ (s[k].toNat : Int) ≤ 122 := by omega
          clear SM NX h1 h2
          generalize (s[k].toNat : Int) = q at *
          go_wp2_with (fail)
          go_roundw
          case rel => exact ⟨k + 1, by go_num, by omega, ⟨cur, HH.out, hcm, F.out⟩, HB.out⟩
          case measure => simp [intOf]; omega
      · have F := Lib.hid (SM.out (upC_not (fun h => h1 h.1)))
        have g1 : ¬ (97 : Int) ≤ (s[k].toNat : Int) := by omega
        clear SM NX h1
        generalize (s[k].toNat : Int) = q at *
        go_wp2_with (fail)
        go_roundw
        case rel => exact ⟨k + 1, by go_num, by omega, ⟨cur, HH.out, hcm, F.out⟩, HB.out⟩
        case measure => simp [intOf]; omega
    · obtain rfl : k = s.size := by omega
      have hl : (upB (tl s)).length = s.size := by rw [upB_len, Fs.tl_len]
      have CB : (convert 97 9 (.slice (some ⟨w.heap.size, 0, none⟩) s.size G)).run Tryz.prog wr = .ok (.string (bs (upB (tl s)))) wr := by
        rw [← hl]
        exact run_convert_bytes_back wr _ _ 5 ⟨w.heap.size, 0, none⟩ G (upB (tl s)) Tryz.underlying97 Tryz.underlying5 Tryz.underlying9 (up_list HU.out hh)
      clear hh hl
      obtain ⟨r, hr⟩ : ∃ r, r = bs (upB (tl s)) := ⟨_, rfl⟩
      rw [← hr] at CB
      have HR := Lib.hid hr
      clear hr
      go_wp2_with (fail)
      go_ret
      exact ⟨by rw [← HR.out]; rfl, HB.out⟩
end Go.Proofs.YthkaehnhdldbbaaGreatDoor.Bx
/- BxSorted, what a claim needs of it (prune.py). -/
namespace Go.Proofs.YthkaehnhdldbbaaGreatDoor.Bx
open Go.RowKit
open Fs (B Env tv)
set_option linter.unusedVariables false
set_option maxRecDepth 100000
theorem trim_eq (s : B) : Lib.trimSuffix s [10] = trim s := by
  unfold Lib.trimSuffix Lib.hasSuffix trim
  rcases List.eq_nil_or_concat s with rfl | ⟨l, a, rfl⟩
  · rfl
  · rw [List.concat_eq_append]
    by_cases h : a = 10
    · subst h
      rw [if_pos (by rw [List.isSuffixOf_iff_suffix]; exact ⟨l, rfl⟩), if_pos (by simp)]
      simp
    · rw [if_neg, if_neg (by simpa using h)]
      rw [Bool.not_eq_true, ← Bool.not_eq_true, List.isSuffixOf_iff_suffix]
      rintro ⟨t, ht⟩
      have := congrArg List.getLast? ht
      simp at this
      exact h this.symm
def midV (ps : List ByteArray) (k : Nat) : List Value := (ps.take k).map (fun x => Value.string (x ++ ⟨#[10]⟩)) ++ (ps.drop k).map Value.string
theorem mid_zero (ps : List ByteArray) : midV ps 0 = ps.map Value.string := by unfold midV; simp
theorem mid_at {ps : List ByteArray} {k : Nat} (hk : k < ps.length) : (midV ps k).toArray[k]? = some (.string ps[k]) := by
  unfold midV
  simp only [List.getElem?_toArray]
  rw [List.getElem?_append_right (by simp; omega)]
  simp only [List.length_map, List.length_take, Nat.min_eq_left (Nat.le_of_lt hk), Nat.sub_self, List.getElem?_map, List.getElem?_drop, Nat.add_zero, List.getElem?_eq_getElem hk]
  rfl
theorem mid_next {ps : List ByteArray} {k : Nat} (hk : k < ps.length) : (midV ps k).toArray.setIfInBounds k (.string (ps[k] ++ ⟨#[10]⟩)) = (midV ps (k + 1)).toArray := by
  apply Array.toList_inj.1
  rw [Array.toList_setIfInBounds]
  unfold midV
  simp only
  have hX : ((ps.take k).map fun x => Value.string (x ++ ⟨#[10]⟩)).length = k := by rw [List.length_map, List.length_take, Nat.min_eq_left (Nat.le_of_lt hk)]
  rw [List.set_append_right _ _ (by omega), hX, Nat.sub_self, List.drop_eq_getElem_cons hk, List.map_cons, List.set_cons_zero, List.take_succ_eq_append_getElem hk, List.map_append, List.append_assoc]
  rfl
theorem mid_all (ps : List ByteArray) : midV ps ps.length = (ps.map fun x => tl x ++ [10]).map tv := by
  unfold midV
  rw [List.take_length, List.drop_length, List.map_nil, List.append_nil, List.map_map]
  refine List.map_congr_left fun x _ => ?_
  show Value.string (x ++ ⟨#[10]⟩) = .string (bs (tl x ++ [10]))
  congr 1
theorem join_flat (l : List B) : Lib.join l [] = l.flatten := by
  unfold Lib.join
  induction l with
  | nil => rfl
  | cons a l ih =>
    cases l with
    | nil => simp
    | cons b r =>
      simp at ih ⊢
      first | done | exact ih
def MidRow (w W : World) (g : Nat) (ps : List ByteArray) (k : Nat) : Prop := W.heap[g]? = some (.cells (midV ps k).toArray 9 (0, 0)) ∧ Below w.heap.size w W
set_option maxHeartbeats 2000000 in
theorem sorted_any (s : ByteArray) (w : World) (hE : Env w) (hs : s.size ≤ 900000) :
    Calls Tryz.prog 122 #[.string s] w fun e w' => e = .returned (.string (bs (soB (tl s)))) ∧ Below w.heap.size w w' := by
  by_cases h0 : s = ⟨#[]⟩
  · subst h0
    have F : Hid (bs (soB (tl ⟨#[]⟩)) = ⟨#[]⟩) := Lib.hid (by kernel_rfl)
    go_enter Tryz.func122, Tryz.ntmps122
    go_wp2_with (fail)
    go_ret
    exact ⟨by rw [F.out]; rfl, Below.refl _ _⟩
  · have hne := Lg.s_ne h0
    have hsn : tl s ≠ [] := fun e => h0 (Lg.tl_inj e)
    obtain ⟨⟨mx, hm⟩, _⟩ := hE
    have hie : s.toList.isEmpty = false := by rw [Lib.toList_data]; simpa using hsn
    obtain ⟨t, ht⟩ : ∃ t, t = bs (trim (tl s)) := ⟨_, rfl⟩
    have htl : (trim (tl s)).length ≤ s.size := by
      unfold trim
      split
      · rw [List.length_dropLast, Fs.tl_len]; omega
      · rw [Fs.tl_len]; exact Nat.le_refl _
    have hts : t.size ≤ 900000 := by rw [ht, Fs.bs_len]; omega
    have TR : Hid (Calls Tryz.prog 174 #[.string s, .string ⟨#[10]⟩] w fun e w' => e = .returned (.string t) ∧ w = w') := Lib.hid ((Tryz.strings_TrimSuffix s ⟨#[10]⟩ w (by omega)).mono (by
      rintro e w' ⟨rfl, h2⟩
      refine ⟨?_, h2.symm⟩
      rw [ht, ← trim_eq]; rfl))
    have SP := Lib.hid (Lg.split_any t 10 mx w (by omega) hm)
    obtain ⟨ps, hps⟩ : ∃ ps, ps = Lg.pieces 10 t := ⟨_, rfl⟩
    have hpl : ps.length ≤ 900001 := by rw [hps]; have := Lg.pieces_len 10 t; omega
    have hpp : 0 < ps.length := by rw [hps]; exact List.length_pos_iff.2 (Lg.pieces_ne 10 t)
    have PZ : Hid (∀ p ∈ ps, p.size ≤ 900000) := Lib.hid (fun p hp => by rw [hps] at hp; have := Lg.pieces_part 10 t p hp; omega)
    have LN : Hid (linesB (tl s) = ps.map fun x => tl x ++ [10]) := Lib.hid (by
      unfold linesB
      rw [if_neg hsn, hps]
      unfold Lg.pieces
      rw [List.map_map, ht]
      rfl)
    rw [← hps] at SP
    clear hps ht htl h0 hsn
    obtain ⟨W1, eW⟩ : ∃ W1, W1 = w.alloc (.cells (ps.map Value.string).toArray 9) := ⟨_, rfl⟩
    have R0 : Hid (MidRow w W1 w.heap.size ps 0) := Lib.hid ⟨by rw [eW, mid_zero]; exact heap_alloc_new w _, by rw [eW]; exact (Below.refl _ _).alloc (Nat.le_refl _) _⟩
    rw [← eW] at SP
    clear eW
    go_enter Tryz.func122, Tryz.ntmps122
    go_wp2_with (first
      | (go_at_call 174; (with_reducible refine (TR.out).mono ?_); rintro e w1 ⟨rfl, rfl⟩)
      | (go_at_call 87; (with_reducible refine (SP.out).mono ?_); rintro e w2 ⟨rfl, rfl⟩))
    go_loopw [12] (fun i W => ∃ k : Nat, i = .int .i64 k ∧ k ≤ ps.length ∧ MidRow w W w.heap.size ps k) (fun i _ => ps.length - (intOf i).toNat)
    case atStart => exact ⟨0, rfl, by omega, R0.out⟩
    case round =>
      obtain ⟨k, rfl, hk, hh, hb⟩ := hrel
      have HB := Lib.hid hb
      have HH := Lib.hid hh
      clear hb R0 SP TR
      by_cases hlt : k < ps.length
      · have hkI : (k : Int) < (ps.length : Int) := by omega
        have c0 : wr.cell? ⟨w.heap.size, k, none⟩ = some (.string ps[k]) := (cell_heap hh k).trans (mid_at hlt)
        have f0 := frozen_heap hh k
        have hqz := PZ.out _ (List.getElem_mem hlt)
        have NX : Hid (∀ u, u = ps[k] ++ ⟨#[10]⟩ → MidRow w (wr.setCell ⟨w.heap.size, k, none⟩ (.string u)) w.heap.size ps (k + 1)) := Lib.hid fun u hu => ⟨by rw [hu, ← mid_next hlt]; exact heap_set hh, HB.out.setCell (p := ⟨w.heap.size, k, none⟩) (Nat.le_refl _) _⟩
        clear hh
        generalize ps[k] = q at *
        go_wp2_with (fail)
        go_roundw
        case rel => exact ⟨k + 1, by go_num, by omega, NX.out _ rfl⟩
        case measure => simp [intOf]; omega
      · obtain rfl : k = ps.length := by omega
        rw [mid_all, ← LN.out] at hh
        have hll : (linesB (tl s)).length = ps.length := by rw [LN.out, List.length_map]
        have hown : wr.ownsRow w.heap.size 9 1 (.slice (some ⟨w.heap.size, 0, none⟩) ps.length ps.length) ps.length ((linesB (tl s)).map tv) :=
          ⟨by rw [List.length_map]; omega, .inr ⟨w.heap.size, ps.length, _, rfl, Nat.le_refl _, hh, Nat.le_refl _, by unfold maxLen; omega, by simp; omega, by rw [List.take_of_length_le (by simp; omega)]⟩⟩
        have ST := Lib.hid (Fs.sort_any _ ps.length w.heap.size (linesB (tl s)) wr hown hll (by omega))
        have hsl : (sortL (linesB (tl s))).length = ps.length := by unfold sortL; rw [(List.mergeSort_perm _ _).length_eq]; exact hll
        have hfl : (sortL (linesB (tl s))).flatten.length ≤ s.size + 1 := by
          have := so_len (tl s)
          have h2 : (full (tl s)).length ≤ (tl s).length + 1 := by
            rw [full_eq]
            split
            · simp
            · split
              · omega
              · simp
          rw [Fs.tl_len] at h2
          show (soB (tl s)).length ≤ _
          omega
        have JN : Hid (∀ W, W.ownsRow w.heap.size 9 1 (.slice (some ⟨w.heap.size, 0, none⟩) ps.length ps.length) ps.length ((sortL (linesB (tl s))).map tv) → Calls Tryz.prog 112 #[.slice (some ⟨w.heap.size, 0, none⟩) ps.length ps.length, .string ⟨#[]⟩] W fun e w' => e = .returned (.string (bs (soB (tl s)))) ∧ Below W.heap.size W w') := Lib.hid fun W ho => by
          have hj : Lib.join (((sortL (linesB (tl s))).map bs).map (·.data.toList)) (⟨#[]⟩ : ByteArray).data.toList = soB (tl s) := by
            rw [List.map_map, show ((fun x : ByteArray => x.data.toList) ∘ bs) = id from rfl, List.map_id]
            exact join_flat _
          have := Tryz.strings_Join w.heap.size 0 ps.length ((sortL (linesB (tl s))).map bs) ⟨#[]⟩ W (fun i y hy => ?_) (ho.lt _ rfl).2 (by rw [List.length_map]; omega) (by rw [List.length_map]; omega) (by rw [hj]; show (sortL (linesB (tl s))).flatten.length ≤ _; omega)
          · rw [hj, List.length_map, hsl] at this
            exact this
          · rw [Nat.zero_add]
            have h2 := ho.cells (g := w.heap.size) rfl i (.string y) (by
              rw [List.getElem?_map] at hy
              cases hq : (sortL (linesB (tl s)))[i]? with
              | none => rw [hq] at hy; cases hy
              | some b =>
                rw [hq] at hy
                simp only [Option.map_some, Option.some.injEq] at hy
                rw [List.getElem?_map, hq, ← hy]; rfl)
            rwa [Lg.add_eq] at h2
        clear hown hh hsl hfl hll LN HH
        go_wp2_with (first
          | (go_at_call 93; (with_reducible refine (ST.out).mono ?_); rintro e w3 ⟨rfl, ho3, hg3⟩; have J3 := Lib.hid (JN.out _ ho3); have h3 := HB.out.grown hg3 HB.out.size (fun g hg => by simp [Value.ownBlock] at hg; omega); clear ho3 hg3)
          | (go_at_call 112; (with_reducible refine (J3.out).mono ?_); rintro e w4 ⟨rfl, hb4⟩))
        go_ret
        exact ⟨rfl, h3.trans (hb4.mono h3.size)⟩
end Go.Proofs.YthkaehnhdldbbaaGreatDoor.Bx
