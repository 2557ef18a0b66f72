/- Joined by mkmerged.py: WlSpec, WlFrame, WlLog, WlAct, WlActs. -/
import Derived.Test.YtifiipmmgnmciaaGreatDoorMi27
import Derived.Test.YtifiipmmgnmciaaGreatDoorMi17
import Derived.Test.YtifiipmmgnmciaaGreatDoorMi13
import Derived.Test.YtifiipmmgnmciaaGreatDoorMi18
import Derived.Test.YtifiipmmgnmciaaGreatDoorMi14
import Derived.Test.YtifiipmmgnmciaaGreatDoorMi04
import Derived.Test.YtifiipmmgnmciaaGreatDoorMi28
import Derived.BigRegion
import Derived.Test.YtifiipmmgnmciaaGreatDoorMi38
import Derived.Deep.RegionHeld3
/- WlSpec, what a claim needs of it (prune.py). -/
namespace Go.Proofs.YtifiipmmgnmciaaGreatDoor.Wl
open Go
open Dk (Dk Fd)
abbrev B := List UInt8
set_option linter.unusedVariables false
def short (s : B) : B := (Blk.sum s).take 8
def frame (s : B) : B := Pk.text (short s) ++ Pk.text s
def frames (l : B) : List B × Nat :=
  match _h : Pk.nxt l with
  | .bad _ => ([], l.length)
  | .ok a q => match _h2 : Pk.nxt q with
    | .bad _ => ([], l.length)
    | .ok s r => if a = short s then (s :: (frames r).1, (frames r).2) else ([], l.length)
termination_by l.length
decreasing_by
  all_goals
    have := Pk.nxt_lt _h
    have := Pk.nxt_lt _h2
    omega
theorem short_len (s : B) : (short s).length = 8 := by unfold short; rw [List.length_take, Blk.sum_len]; rfl
def name (n k : Nat) : B := [108, 111, 103, 45] ++ Lib.decDigits n ++ [45] ++ Lib.decDigits k
def partsF (d : Dk) (n : Nat) : Nat → Nat → List B
  | 0, _ => []
  | f + 1, k => if (Dk.read d (name n k)).2 = 0 then name n k :: partsF d n f (k + 1) else []
def parts (d : Dk) (n : Nat) : List B := partsF d n (d.l.length + 1) 0
def take (d : Dk) (p : B) : (List B × Nat × Int) × Dk :=
  if (Dk.read d p).2 ≠ 0 then (([], 0, (Dk.read d p).2), d) else
  if (Dk.sync d p).2 ≠ 0 then (([], 0, (Dk.sync d p).2), (Dk.sync d p).1) else
  (((frames (Dk.read d p).1).1, (frames (Dk.read d p).1).2, 0), (Dk.sync d p).1)
structure Lw where
  number : Nat
  part : Nat
  many : Nat
  dead : Bool
def takes (d : Dk) (out : List B) (part : Nat) (i : Nat) : List B → (Int × List B × Nat) × Dk
  | [] => ((0, out, part), d)
  | p :: l => if (take d p).1.2.2 ≠ 0 then (((take d p).1.2.2, [], 0), (take d p).2) else
    takes (take d p).2 (out ++ (take d p).1.1) (if 0 < (take d p).1.2.1 then i + 1 else i) (i + 1) l
end Go.Proofs.YtifiipmmgnmciaaGreatDoor.Wl
/- WlFrame, what a claim needs of it (prune.py). -/
namespace Go.Proofs.YtifiipmmgnmciaaGreatDoor.Wl
open Go.RowKit
set_option linter.unusedVariables false
set_option maxRecDepth 100000
theorem tl_len (s : ByteArray) : (tl s).length = s.size := (Lib.size_eq s).symm
theorem short_any (s : ByteArray) (hs : s.size ≤ 1000000) (w : World) :
    Calls Tryz.prog 179 #[.string s] w fun e w' => e = .returned (.string (bs (short (tl s)))) ∧ Below w.heap.size w w' := by
  obtain ⟨R, eR⟩ : ∃ R, R = bs (Blk.sum (tl s)) := ⟨_, rfl⟩
  have SM : Hid (Calls Tryz.prog 240 #[.string s] w fun e w' => e = .returned (.string R) ∧ Below w.heap.size w w') := Lib.hid (by rw [eR]; exact sum_any s hs w)
  have hR : R.size = 32 := by rw [eR, bs_size, Blk.sum_len]
  have OUT : Hid (R.extract 0 8 = bs (short (tl s))) := Lib.hid (by
    rw [← bs_of (R.extract 0 8), Lib.extract_data, eR]
    unfold short
    simp
    rfl)
  have q1 : (8 : Int) ≤ (R.size : Int) := by omega
  have q2 : 8 ≤ R.size := by omega
  clear eR hs hR
  go_enter Tryz.func179, Tryz.ntmps179
  go_wp2_with (go_at_call 240; (with_reducible refine (SM.out).mono ?_); rintro e w1 ⟨rfl, hb1⟩)
  go_ret
  exact ⟨ret_str (by rw [← OUT.out]), hb1⟩
theorem frame_any (s : ByteArray) (hs : s.size ≤ 1000000) (w : World) (ht : Tab w) :
    Calls Tryz.prog 102 #[.string s] w fun e w' => e = .returned (.string (bs (frame (tl s)))) ∧ Below w.heap.size w w' := by
  have SH := Lib.hid (short_any s hs w)
  have hl := short_len (tl s)
  have hts := tl_len s
  have T1 : Hid (∀ W, Below w.heap.size w W → Calls Tryz.prog 104 #[.string (bs (short (tl s)))] W fun e w' => e = .returned (.string (bs (Pk.text (short (tl s))))) ∧ Below W.heap.size W w') := Lib.hid fun W hW => text_any _ (by rw [bs_size]; omega) W (ht.on hW)
  have T2 : Hid (∀ W, Below w.heap.size w W → Calls Tryz.prog 104 #[.string s] W fun e w' => e = .returned (.string (bs (Pk.text (tl s)))) ∧ Below W.heap.size W w') := Lib.hid fun W hW => text_any s (by omega) W (ht.on hW)
  have F : Hid (bs (Pk.text (short (tl s))) ++ bs (Pk.text (tl s)) = bs (frame (tl s))) := Lib.hid (by unfold frame; rw [bs_append])
  have z1 : (bs (Pk.text (short (tl s)))).size ≤ 100 := by
    rw [bs_size]
    have := Pk.dec_len_le 7 (short (tl s)).length (by omega)
    unfold Pk.text
    simp only [List.length_append, List.length_cons, List.length_nil]
    omega
  have z2 : (bs (Pk.text (tl s))).size ≤ 2000000 := by
    rw [bs_size]
    have := Pk.dec_len_le 7 (tl s).length (by omega)
    unfold Pk.text
    simp only [List.length_append, List.length_cons, List.length_nil]
    omega
  clear ht hl hts
  generalize bs (Pk.text (short (tl s))) = X at *
  generalize bs (Pk.text (tl s)) = Y at *
  generalize bs (short (tl s)) = Z at *
  go_enter Tryz.func102, Tryz.ntmps102
  go_wp2_with (first
    | (go_at_call 179; (with_reducible refine (SH.out).mono ?_); rintro e w1 ⟨rfl, hb1⟩)
    | (go_at_call 104; (with_reducible refine (T1.out _ hb1).mono ?_); rintro e w2 ⟨rfl, hb2⟩; have hb12 := hb1.trans (hb2.mono hb1.size))
    | (go_at_call 104; (with_reducible refine (T2.out _ hb12).mono ?_); rintro e w3 ⟨rfl, hb3⟩; have hb13 := hb12.trans (hb3.mono hb12.size)))
  go_ret
  exact ⟨ret_str F.out, hb13⟩
theorem name_any (n k : Nat) (hn : n ≤ 100000000) (hk : k ≤ 100000000) (w : World) (ht : Tab w) :
    Calls Tryz.prog 121 #[.int .i64 (n : Int), .int .i64 (k : Int)] w fun e w' => e = .returned (.string (bs (name n k))) ∧ Below w.heap.size w w' := by
  have I1 := Lib.hid (itoa_any n (by omega) w ht)
  have I2 : Hid (∀ W, Below w.heap.size w W → Calls Tryz.prog 180 #[.int .i64 (k : Int)] W fun e w' => e = .returned (.string (bs (Lib.decDigits k))) ∧ Below W.heap.size W w') := Lib.hid fun W hW => itoa_any k (by omega) W (ht.on hW)
  have z1 : (bs (Lib.decDigits n)).size ≤ 100 := by rw [bs_size]; have := Pk.dec_len_le 8 n (by omega); omega
  have z2 : (bs (Lib.decDigits k)).size ≤ 100 := by rw [bs_size]; have := Pk.dec_len_le 8 k (by omega); omega
  have F : Hid (((⟨#[108, 111, 103, 45]⟩ : ByteArray) ++ bs (Lib.decDigits n) ++ (⟨#[45]⟩ : ByteArray) ++ bs (Lib.decDigits k)) = bs (name n k)) := Lib.hid (by
    rw [show (⟨#[108, 111, 103, 45]⟩ : ByteArray) = bs [108, 111, 103, 45] from rfl, show (⟨#[45]⟩ : ByteArray) = bs [45] from rfl, bs_append, bs_append, bs_append]
    rfl)
  clear ht hn hk
  generalize bs (Lib.decDigits n) = X at *
  generalize bs (Lib.decDigits k) = Y at *
  go_enter Tryz.func121, Tryz.ntmps121
  go_wp2_with (first
    | (go_at_call 180; (with_reducible refine (I1.out).mono ?_); rintro e w1 ⟨rfl, hb1⟩)
    | (go_at_call 180; (with_reducible refine (I2.out _ hb1).mono ?_); rintro e w2 ⟨rfl, hb2⟩))
  go_ret
  exact ⟨ret_str F.out, hb1.trans (hb2.mono hb1.size)⟩
end Go.Proofs.YtifiipmmgnmciaaGreatDoor.Wl
/- WlLog, what a claim needs of it (prune.py). -/
namespace Go.Proofs.YtifiipmmgnmciaaGreatDoor.Wl
open Go.RowKit
open Dk (Dk Fd Kp DkS DkAt read find sync sz)
set_option linter.unusedVariables false
set_option maxRecDepth 100000
structure LogAt (W : World) (bl b : Nat) (x : Lw) : Prop where
  st : W.heap[bl]? = some (.cells #[.pointer (some ⟨b, 0, none⟩), .int .i64 (x.number : Int), .int .i64 (x.part : Int), .int .i64 (x.many : Int), .bool x.dead] 207 (0, 0))
theorem LogAt.lt {W : World} {bl b : Nat} {x : Lw} (h : LogAt W bl b x) : bl < W.heap.size := Lg.lt_heap h.st
theorem LogAt.kp {S : Nat → Prop} {W W' : World} {bl b : Nat} {x : Lw} (h : LogAt W bl b x) (k : Kp S W W') (hs : ¬ S bl) : LogAt W' bl b x := ⟨(k.block _ h.lt hs).trans h.st⟩
theorem LogAt.below {W W' : World} {bl b : Nat} {x : Lw} (h : LogAt W bl b x) (k : Below W.heap.size W W') : LogAt W' bl b x := ⟨(k.block _ h.lt).trans h.st⟩
theorem LogAt.ne {W : World} {bl b b' m n : Nat} {x : Lw} {d : Dk} (h : LogAt W bl b' x) (hD : DkAt W b m n d) : bl ≠ b ∧ bl ≠ m := by
  constructor
  · intro e
    have h1 := h.st
    rw [e, hD.st] at h1
    injection h1 with h1
    injection h1 with _ h1 _
    exact absurd h1 (by decide)
  · intro e
    have hc : W.cell? ⟨bl, 0, none⟩ = some (.pointer (some ⟨b', 0, none⟩)) := (cell_heap h.st 0).trans rfl
    exact hD.map.nocell hc e
theorem LogAt.notS {W : World} {bl b b' m n : Nat} {x : Lw} {d : Dk} (h : LogAt W bl b' x) (hD : DkAt W b m n d) : ¬ DkS b m bl := fun e => by
  rcases e with e | e
  · exact (h.ne hD).1 e
  · exact (h.ne hD).2 e
theorem lives_any (W : World) (bl b : Nat) (x : Lw) (h : LogAt W bl b x) :
    Calls Tryz.prog 101 #[.pointer (some ⟨bl, 0, none⟩)] W fun e w' => e = .returned (.int .i64 (if x.dead = true then 40 else 0)) ∧ W = w' := by
  have c4 : W.cell? ⟨bl, 4, none⟩ = some (.bool x.dead) := (cell_heap h.st 4).trans rfl
  clear h
  generalize x.dead = v at *
  cases v
  all_goals
    go_enter Tryz.func101, Tryz.ntmps101
    go_wp2_with (fail)
    go_ret
    exact ⟨rfl, rfl⟩
theorem plen_any (W : World) (bl b : Nat) (x : Lw) (h : LogAt W bl b x) :
    Calls Tryz.prog 57 #[.pointer (some ⟨bl, 0, none⟩)] W fun e w' => e = .returned (.int .i64 (x.many : Int)) ∧ W = w' := by
  have c3 : W.cell? ⟨bl, 3, none⟩ = some (.int .i64 (x.many : Int)) := (cell_heap h.st 3).trans rfl
  clear h
  go_enter Tryz.func57, Tryz.ntmps57
  go_wp2_with (fail)
  go_ret
  exact ⟨rfl, rfl⟩
abbrev strs (l : List B) : List Value := l.map fun t => Value.string (bs t)
theorem name_size {n k : Nat} (hn : n ≤ 100000000) (hk : k ≤ 100000000) : (bs (name n k)).size ≤ maxLen := by
  rw [bs_size]
  have h1 := Pk.dec_len_le 8 n (by omega)
  have h2 := Pk.dec_len_le 8 k (by omega)
  unfold name maxLen
  simp only [List.length_append, List.length_cons, List.length_nil]
  omega
theorem own_len {w : World} {B n : Nat} {p : Option Addr} {m c : Nat} {e : TypeId} {size : Nat} {xs : List Value} (h : w.ownsRow B e size (.slice p m c) n xs) : m = n := by
  rcases h.2 with ⟨h1, h2⟩ | ⟨g, cap, cur, h1, _⟩
  · injection h1; omega
  · injection h1
end Go.Proofs.YtifiipmmgnmciaaGreatDoor.Wl
/- WlAct, what a claim needs of it (prune.py). -/
namespace Go.Proofs.YtifiipmmgnmciaaGreatDoor.Wl
open Go.RowKit
open Dk (Dk Fd Kp DkS DkAt read find sync append sz)
open Cd (KU)
set_option linter.unusedVariables false
set_option maxRecDepth 100000
set_option maxHeartbeats 2000000 in
theorem bstring_ku (B b : Nat) (l : List UInt8) (w : World) (h : SbAt B b l w) (h0 : l ≠ []) :
    Calls Tryz.prog 116 #[.pointer (some ⟨b, 0, none⟩)] w fun e w' => e = .returned (.string (bs l)) ∧ Below B w w' ∧ KU b w w' := by
  obtain ⟨p, hB, v, hbk, hown, hne⟩ : ∃ p, Lib.BuilderAt 217 5 B b p (Lib.byteCells l) w := by
    rcases h with h | h
    · exact ⟨_, h⟩
    · exact ⟨_, h⟩
  have hl0 : l.length ≠ 0 := by simpa using h0
  rw [Lib.byteCells_length] at hown
  obtain ⟨g, cap, cur, rfl, hbg, hg, hnc, hcm, hcs, htake⟩ : ∃ g cap cur, v = .slice (some ⟨g, 0, none⟩) l.length cap ∧ B ≤ g ∧ w.heap[g]? = some (.cells cur 5 (0, 0)) ∧ l.length ≤ cap ∧ cap ≤ maxLen ∧ cur.size = cap * 1 ∧ cur.toList.take (l.length * 1) = Lib.byteCells l := by
    rcases hown.2 with ⟨_, hz⟩ | ⟨g, cap, cur, hv, r⟩
    · exact absurd hz hl0
    · exact ⟨g, cap, cur, hv, r⟩
  have c1 : w.drew.cell? ⟨b, 1, none⟩ = some (.slice (some ⟨g, 0, none⟩) l.length cap) := by
    have : w.drew.heap[b]? = some (.cells #[p, .slice (some ⟨g, 0, none⟩) l.length cap] 217 (0, 0)) := hbk
    rw [Lib.cell_of_heap this]; rfl
  have hSD : (Builtin.unsafeSliceData_ #[215] 298 #[.slice (some ⟨g, 0, none⟩) l.length cap]).run Tryz.prog w.drew = .ok (.pointer (some ⟨g, 0, none⟩)) w.drew :=
    Lib.run_unsafeSliceData_row _ _ _ _ _ _ (by omega)
  have hUS : (Builtin.unsafeString_ #[298, 3] 9 #[.pointer (some ⟨g, 0, none⟩), .int .i64 l.length]).run Tryz.prog w.drew = .ok (.string ⟨l.toArray⟩) (w.drew.freeze ⟨g, 0, none⟩ l.length) := by
    refine Lib.run_unsafeString_row w.drew 298 3 9 5 (by kernel_rfl) (by kernel_rfl) g cur.size (by have hg' : w.drew.heap[g]? = some (.cells cur 5 (0, 0)) := hg; simp [World.shape?, hg']) l h0 (by omega) (by unfold maxLen at hcm; omega) ?_
    intro j x hx
    have := hown.cells (g := g) rfl j (.int .u8 x.toNat) (by simp [Lib.byteCells, hx])
    exact this
  go_enter Tryz.func116, Tryz.ntmps116
  go_wp2
  go_region
  all_goals (go_wp2; go_ret; exact ⟨rfl, Lib.below_freeze (Below.drew (Below.refl B w)) (p := ⟨g, 0, none⟩) hbg _, Cd.KU.freeze hg⟩)
theorem notS {w : World} {b m nn k : Nat} {d : Dk} {cs : Array Value} {T : TypeId} {fr : Nat × Nat} (h : w.heap[k]? = some (.cells cs T fr)) (hT : T ≠ 114) (hD : DkAt w b m nn d) (v : Value) (hv : cs[0]? = some v) : ¬ DkS b m k := fun e => by
  rcases e with e | e
  · rw [e, hD.st] at h
    injection h with h
    injection h with _ h _
    exact hT h.symm
  · have hc : w.cell? ⟨k, 0, none⟩ = some v := by rw [Lib.cell_of_heap h]; exact hv
    exact hD.map.nocell hc e
structure AS (W : World) (Bb b m bl g0 gf gr : Nat) (file : B) (x : Lw) (row : Array Value) (w : World) : Prop where
  g0 : w.heap[g0]? = some (.cells #[.pointer (some ⟨bl, 0, none⟩)] 76 (0, 0))
  log : LogAt w bl b x
  gf : w.heap[gf]? = some (.cells #[.string (bs file)] 9 (0, 0))
  gr : w.heap[gr]? = some (.cells row 41 (0, 0))
  fr : Kp (fun k => k = b ∨ k = m ∨ k = bl) W w
theorem AS.dk {W : World} {Bb b m nn bl g0 gf gr : Nat} {file : B} {x : Lw} {row : Array Value} {w w' : World} {d : Dk} {v : Value} (h : AS W Bb b m bl g0 gf gr file x row w) (hv : row[0]? = some v) (hD : DkAt w b m nn d) (k : Kp (DkS b m) w w') : AS W Bb b m bl g0 gf gr file x row w' :=
  ⟨(k.block _ (Lg.lt_heap h.g0) (notS h.g0 (by decide) hD _ rfl)).trans h.g0, h.log.kp k (h.log.notS hD), (k.block _ (Lg.lt_heap h.gf) (notS h.gf (by decide) hD _ rfl)).trans h.gf, (k.block _ (Lg.lt_heap h.gr) (notS h.gr (by decide) hD v hv)).trans h.gr, h.fr.trans (k.mono (fun i hi => by rcases hi with e | e; exact .inl e; exact .inr (.inl e)))⟩
theorem ku_keeps {w w' : World} {b k : Nat} {cs : Array Value} {T : TypeId} {fr : Nat × Nat} (k1 : KU b w w') (h : w.heap[k]? = some (.cells cs T fr)) (hT : T ≠ 5) (hb : k ≠ b) : w'.heap[k]? = w.heap[k]? :=
  k1 k (Lg.lt_heap h) hb (fun cs' fr' e => by rw [h] at e; injection e with e; injection e with _ e _; exact hT e)
theorem sb_ne {w : World} {Bb gb k : Nat} {acc : B} {cs : Array Value} {T : TypeId} {fr : Nat × Nat} (hS : SbAt Bb gb acc w) (h : w.heap[k]? = some (.cells cs T fr)) (hT : T ≠ 217) : k ≠ gb := fun e => by
  rcases hS with ⟨_, v, hb, _⟩ | ⟨_, v, hb, _⟩
  · rw [e, hb] at h; injection h with h; injection h with _ h _; exact hT h.symm
  · rw [e, hb] at h; injection h with h; injection h with _ h _; exact hT h.symm
theorem Kp.low {S : Nat → Prop} {W w w' : World} {Bb : Nat} (h : Kp S W w) (hb : Below Bb w w') (hB : W.heap.size ≤ Bb) : Kp S W w' :=
  ⟨hb.os.trans h.os, hb.tape.trans h.tape, hb.output.trans h.output, Nat.le_trans h.size hb.size, fun i h1 h2 => (hb.block i (by omega)).trans (h.block i h1 h2)⟩
theorem AS.sb {W : World} {Bb b m bl g0 gf gr gb : Nat} {file acc : B} {x : Lw} {row : Array Value} {w w' : World} (h : AS W Bb b m bl g0 gf gr file x row w) (hB : W.heap.size ≤ Bb) (hS : SbAt Bb gb acc w) (hb : Below Bb w w') (k : KU gb w w') : AS W Bb b m bl g0 gf gr file x row w' :=
  ⟨(ku_keeps k h.g0 (by decide) (sb_ne hS h.g0 (by decide))).trans h.g0, ⟨(ku_keeps k h.log.st (by decide) (sb_ne hS h.log.st (by decide))).trans h.log.st⟩, (ku_keeps k h.gf (by decide) (sb_ne hS h.gf (by decide))).trans h.gf, (ku_keeps k h.gr (by decide) (sb_ne hS h.gr (by decide))).trans h.gr, Kp.low h.fr hb hB⟩
theorem AS.drew {W : World} {Bb b m bl g0 gf gr : Nat} {file : B} {x : Lw} {row : Array Value} {w : World} (h : AS W Bb b m bl g0 gf gr file x row w) : AS W Bb b m bl g0 gf gr file x row w.drew := ⟨h.g0, ⟨h.log.st⟩, h.gf, h.gr, h.fr.drew⟩
theorem AS.cells {W : World} {Bb b m bl g0 gf gr : Nat} {file : B} {x : Lw} {row : Array Value} {w : World} (h : AS W Bb b m bl g0 gf gr file x row w) : w.cell? ⟨g0, 0, none⟩ = some (.pointer (some ⟨bl, 0, none⟩)) ∧ w.cell? ⟨bl, 0, none⟩ = some (.pointer (some ⟨b, 0, none⟩)) ∧ w.cell? ⟨gf, 0, none⟩ = some (.string (bs file)) :=
  ⟨(cell_heap h.g0 0).trans rfl, (cell_heap h.log.st 0).trans rfl, (cell_heap h.gf 0).trans rfl⟩
set_option maxHeartbeats 4000000 in
theorem act2_any (W : World) (Bb b m nn bl g0 gf gr gb : Nat) (d : Dk) (file acc : B) (x : Lw) (row : Array Value) (v : Value) (w : World) (hv : row[0]? = some v) (hB : W.heap.size ≤ Bb) (hb : b < W.heap.size) (hm : m < W.heap.size) (h : AS W Bb b m bl g0 gf gr file x row w) (hS : SbAt Bb gb acc w) (hD : DkAt w b m nn d) (ha : acc ≠ []) (hl : acc.length ≤ 16777216) (hf : file.length ≤ 1000) (hn : nn < maxLen) :
    Calls Tryz.prog 122 #[.pointer (some ⟨g0, 0, none⟩), .pointer (some ⟨gf, 0, none⟩), .pointer (some ⟨gb, 0, none⟩)] w fun e w' => e = .returned (.int .i64 (append d file acc).2) ∧ AS W Bb b m bl g0 gf gr file x row w' ∧ DkAt w' b m (nn + 1) (append d file acc).1 := by
  have x0 := h.drew
  have S0 : SbAt Bb gb acc w.drew := hS
  have D0 : DkAt w.drew b m nn d := hD.keep rfl rfl
  have ST := Lib.hid (bstring_ku Bb gb acc w.drew S0 ha)
  have ST' : Hid (Calls Tryz.prog 116 #[.pointer (some ⟨gb, 0, none⟩)] w.drew fun e w1 => e = .returned (.string (bs acc)) ∧ AS W Bb b m bl g0 gf gr file x row w1 ∧ DkAt w1 b m nn d) := Lib.hid (ST.out.mono (by
    rintro e w1 ⟨h1, h2, h3⟩
    exact ⟨h1, x0.sb hB S0 h2 h3, D0.keep (h2.block _ (by omega)) (h2.block _ (by omega))⟩))
  have AP : Hid (∀ w1, AS W Bb b m bl g0 gf gr file x row w1 → DkAt w1 b m nn d → Calls Tryz.prog 107 #[.pointer (some ⟨b, 0, none⟩), .string (bs file), .string (bs acc)] w1 fun e w' => e = .returned (.int .i64 (append d file acc).2) ∧ AS W Bb b m bl g0 gf gr file x row w' ∧ DkAt w' b m (nn + 1) (append d file acc).1) := Lib.hid fun w1 x1 d1 =>
    (Dk.pappend_any b m nn d (bs file) (bs acc) w1 d1 (by rw [bs_size]; unfold maxLen; omega) (by rw [bs_size]; exact hl) hn).mono (by
      rintro e w' ⟨h1, h2, h3⟩
      exact ⟨h1, x1.dk hv d1 h3, h2⟩)
  obtain ⟨c0, c1, c2⟩ := x0.cells
  have CS := Lib.hid (fun w1 (x1 : AS W Bb b m bl g0 gf gr file x row w1) => x1.cells)
  clear ST hS hD h S0 D0 ha hl hf
  generalize append d file acc = r at *
  go_enter Tryz.func122, Tryz.ntmps122
  go_upto_region 1 with (fail)
  go_region_held3 (fun W => W.cell? ⟨g0, 0, none⟩ = some (.pointer (some ⟨bl, 0, none⟩)) ∧ W.cell? ⟨bl, 0, none⟩ = some (.pointer (some ⟨b, 0, none⟩)) ∧ W.cell? ⟨gf, 0, none⟩ = some (.string (bs file))) (first | (with_reducible exact ⟨c0, c1, c2⟩) | (with_reducible exact CS.out _ x1) | (with_reducible exact CS.out _ x2)) (first
    | (go_at_call 116; (with_reducible refine Calls.mono (ST'.out) ?_); rintro e w1 ⟨rfl, x1, d1⟩)
    | (go_at_call 107; (with_reducible refine Calls.mono (AP.out _ x1 d1) ?_); rintro e w2 ⟨rfl, x2, d2⟩))
  all_goals
    go_wp2_with (fail)
    go_ret
    exact ⟨rfl, x2, d2⟩
set_option maxHeartbeats 4000000 in
theorem act3_any (W : World) (Bb b m nn bl g0 gf gr : Nat) (d : Dk) (file : B) (x : Lw) (row : Array Value) (v : Value) (w : World) (hv : row[0]? = some v) (h : AS W Bb b m bl g0 gf gr file x row w) (hD : DkAt w b m nn d) (hf : file.length ≤ 1000) (hn : nn < maxLen) :
    Calls Tryz.prog 123 #[.pointer (some ⟨g0, 0, none⟩), .pointer (some ⟨gf, 0, none⟩)] w fun e w' => e = .returned (.int .i64 (sync d file).2) ∧ AS W Bb b m bl g0 gf gr file x row w' ∧ DkAt w' b m (nn + 1) (sync d file).1 := by
  have x0 := h.drew
  have D0 : DkAt w.drew b m nn d := hD.keep rfl rfl
  have AP : Hid (Calls Tryz.prog 109 #[.pointer (some ⟨b, 0, none⟩), .string (bs file)] w.drew fun e w' => e = .returned (.int .i64 (sync d file).2) ∧ AS W Bb b m bl g0 gf gr file x row w' ∧ DkAt w' b m (nn + 1) (sync d file).1) := Lib.hid
    ((Dk.psync_any b m nn d (bs file) w.drew D0 (by rw [bs_size]; unfold maxLen; omega) hn).mono (by
      rintro e w' ⟨h1, h2, h3⟩
      exact ⟨h1, x0.dk hv D0 h3, h2⟩))
  obtain ⟨c0, c1, c2⟩ := x0.cells
  have CS := Lib.hid (fun w1 (x1 : AS W Bb b m bl g0 gf gr file x row w1) => x1.cells)
  clear hD h D0 hf
  generalize sync d file = r at *
  go_enter Tryz.func123, Tryz.ntmps123
  go_upto_region 1 with (fail)
  go_region_held3 (fun W => W.cell? ⟨g0, 0, none⟩ = some (.pointer (some ⟨bl, 0, none⟩)) ∧ W.cell? ⟨bl, 0, none⟩ = some (.pointer (some ⟨b, 0, none⟩)) ∧ W.cell? ⟨gf, 0, none⟩ = some (.string (bs file))) (first | (with_reducible exact ⟨c0, c1, c2⟩) | (with_reducible exact CS.out _ x2)) (first
    | (go_at_call 109; (with_reducible refine Calls.mono (AP.out) ?_); rintro e w2 ⟨rfl, x2, d2⟩))
  all_goals
    go_wp2_with (fail)
    go_ret
    exact ⟨rfl, x2, d2⟩
end Go.Proofs.YtifiipmmgnmciaaGreatDoor.Wl
/- WlActs, what a claim needs of it (prune.py). -/
namespace Go.Proofs.YtifiipmmgnmciaaGreatDoor.Wl
open Go.RowKit
open Dk (Dk Fd Kp DkS DkAt read find sync append sz)
set_option linter.unusedVariables false
set_option maxRecDepth 100000
def two (d : Dk) (file acc : B) : Dk × Int := if (append d file acc).2 ≠ 0 then append d file acc else sync (append d file acc).1 file
def ActsSay (W : World) (b m nn bl g0 : Nat) (d : Dk) (file acc : B) (x : Lw) (e : Ending) (w' : World) : Prop :=
  e = .returned (.int .i64 (two d file acc).2) ∧ w'.heap[g0]? = some (.cells #[.pointer (some ⟨bl, 0, none⟩)] 76 (0, 0)) ∧ DkAt w' b m (nn + 2) (two d file acc).1 ∧ LogAt w' bl b { x with dead := ((two d file acc).2 == 40) } ∧ Kp (fun k => k = b ∨ k = m ∨ k = bl) W w'
theorem log_dead {W w : World} {Bb b m nn bl g0 gf gr : Nat} {file : B} {x : Lw} {row : Array Value} {d : Dk} (h : AS W Bb b m bl g0 gf gr file x row w) (hD : DkAt w b m nn d) (v : Bool) : (w.setCell ⟨bl, 4, none⟩ (.bool v)).heap[g0]? = some (.cells #[.pointer (some ⟨bl, 0, none⟩)] 76 (0, 0)) ∧ DkAt (w.setCell ⟨bl, 4, none⟩ (.bool v)) b m nn d ∧ LogAt (w.setCell ⟨bl, 4, none⟩ (.bool v)) bl b { x with dead := v } ∧ Kp (fun k => k = b ∨ k = m ∨ k = bl) W (w.setCell ⟨bl, 4, none⟩ (.bool v)) := by
  have hne := h.log.ne hD
  have hg : bl ≠ g0 := fun e => by
    have h1 := h.log.st
    rw [e, h.g0] at h1
    injection h1 with h1
    injection h1 with _ h1 _
    exact absurd h1 (by decide)
  exact ⟨(heap_set_ne hg).trans h.g0, hD.keep (heap_set_ne hne.1) (heap_set_ne hne.2), ⟨(heap_set h.log.st).trans rfl⟩, h.fr.setCell (.inr (.inr rfl)) _⟩
set_option maxHeartbeats 4000000 in
theorem acts_any (W : World) (Bb b m nn bl g0 gf gr gb : Nat) (d : Dk) (file acc : B) (x : Lw) (row : Array Value) (w : World) (hrow : row = #[.func (.func 122) #[] #[.pointer (some ⟨g0, 0, none⟩), .pointer (some ⟨gf, 0, none⟩), .pointer (some ⟨gb, 0, none⟩)], .func (.func 123) #[] #[.pointer (some ⟨g0, 0, none⟩), .pointer (some ⟨gf, 0, none⟩)]]) (hB : W.heap.size ≤ Bb) (hb : b < W.heap.size) (hm : m < W.heap.size) (h : AS W Bb b m bl g0 gf gr file x row w) (hS : SbAt Bb gb acc w) (hD : DkAt w b m nn d) (ha : acc ≠ []) (hl : acc.length ≤ 16777216) (hf : file.length ≤ 1000) (hn : nn + 1 < maxLen) (hx : x.dead = false) :
    Calls Tryz.prog 105 #[.pointer (some ⟨bl, 0, none⟩), .slice (some ⟨gr, 0, none⟩) 2 2] w (ActsSay W b m nn bl g0 d file acc x) := by
  have e2f := enters_of Tryz.func122 (by kernel_rfl) rfl
  have e3f := enters_of Tryz.func123 (by kernel_rfl) rfl
  have hv0 : row[0]? = some (.func (.func 122) #[] #[.pointer (some ⟨g0, 0, none⟩), .pointer (some ⟨gf, 0, none⟩), .pointer (some ⟨gb, 0, none⟩)]) := by rw [hrow]; rfl
  have hv1 : row[1]? = some (.func (.func 123) #[] #[.pointer (some ⟨g0, 0, none⟩), .pointer (some ⟨gf, 0, none⟩)]) := by rw [hrow]; rfl
  obtain ⟨e1, he1⟩ : ∃ e1, e1 = (append d file acc).2 := ⟨_, rfl⟩
  obtain ⟨d1, hd1⟩ : ∃ d1, d1 = (append d file acc).1 := ⟨_, rfl⟩
  obtain ⟨e2, he2⟩ : ∃ e2, e2 = (sync d1 file).2 := ⟨_, rfl⟩
  obtain ⟨d2, hd2⟩ : ∃ d2, d2 = (sync d1 file).1 := ⟨_, rfl⟩
  have C2 : Hid (Calls Tryz.prog 122 #[.pointer (some ⟨g0, 0, none⟩), .pointer (some ⟨gf, 0, none⟩), .pointer (some ⟨gb, 0, none⟩)] w fun e w' => e = .returned (.int .i64 e1) ∧ AS W Bb b m bl g0 gf gr file x row w' ∧ DkAt w' b m (nn + 1) d1) := Lib.hid (by rw [he1, hd1]; exact act2_any W Bb b m nn bl g0 gf gr gb d file acc x row _ w hv0 hB hb hm h hS hD ha hl hf (by omega))
  have C3 : Hid (∀ w1, AS W Bb b m bl g0 gf gr file x row w1 → DkAt w1 b m (nn + 1) d1 → Calls Tryz.prog 123 #[.pointer (some ⟨g0, 0, none⟩), .pointer (some ⟨gf, 0, none⟩)] w1 fun e w' => e = .returned (.int .i64 e2) ∧ AS W Bb b m bl g0 gf gr file x row w' ∧ DkAt w' b m (nn + 2) d2) := Lib.hid fun w1 h1 hD1 => by rw [he2, hd2]; exact act3_any W Bb b m (nn + 1) bl g0 gf gr d1 file x row _ w1 hv0 h1 hD1 hf hn
  have TW : Hid (two d file acc = if e1 ≠ 0 then (d1, e1) else (d2, e2)) := Lib.hid (by rw [he1, hd2, he2, hd1]; rfl)
  have R0 : Hid (∀ w1, AS W Bb b m bl g0 gf gr file x row w1 → w1.cell? ⟨gr, 0, none⟩ = some (.func (.func 122) #[] #[.pointer (some ⟨g0, 0, none⟩), .pointer (some ⟨gf, 0, none⟩), .pointer (some ⟨gb, 0, none⟩)])) := Lib.hid fun w1 h1 => (cell_heap h1.gr 0).trans hv0
  have R1 : Hid (∀ w1, AS W Bb b m bl g0 gf gr file x row w1 → w1.cell? ⟨gr, 1, none⟩ = some (.func (.func 123) #[] #[.pointer (some ⟨g0, 0, none⟩), .pointer (some ⟨gf, 0, none⟩)])) := Lib.hid fun w1 h1 => (cell_heap h1.gr 1).trans hv1
  have L4 : Hid (∀ w1, AS W Bb b m bl g0 gf gr file x row w1 → w1.cell? ⟨bl, 4, none⟩ = some (.bool x.dead) ∧ w1.frozen? ⟨bl, 4, none⟩ = false) := Lib.hid fun w1 h1 => ⟨(cell_heap h1.log.st 4).trans rfl, frozen_heap h1.log.st 4⟩
  have HA := Lib.hid h
  have HX := Lib.hid hx
  clear he1 hd1 he2 hd2 hrow hv0 hv1 hS hD h hx ha hl hf
  go_enter Tryz.func105, Tryz.ntmps105
  go_wp2_with (fail)
  go_loopw [10] (fun i wx => ∃ k : Nat, i = .int .i64 k ∧ Hid ((k = 0 ∧ wx = w) ∨ (k = 1 ∧ e1 = 0 ∧ AS W Bb b m bl g0 gf gr file x row wx ∧ DkAt wx b m (nn + 1) d1) ∨ (k = 2 ∧ e1 = 0 ∧ e2 = 0 ∧ AS W Bb b m bl g0 gf gr file x row wx ∧ DkAt wx b m (nn + 2) d2))) (fun i _ => 2 - (intOf i).toNat)
  case atStart => exact ⟨0, rfl, Lib.hid (.inl ⟨rfl, rfl⟩)⟩
  case round =>
    obtain ⟨k, rfl, hrel⟩ := hrel
    rename World => wx
    rcases hrel.out with ⟨rfl, rfl⟩ | ⟨rfl, he, h1, hD1⟩ | ⟨rfl, he, hee, h2, hD2⟩
    · have r0 := R0.out _ HA.out
      clear hrel
      by_cases h0 : e1 = 0
      · have E1 := Lib.hid h0
        rw [h0] at C2
        clear h0
        go_wp2_with (go_at_call 122; (with_reducible refine (C2.out).mono ?_); rintro e w1 ⟨rfl, h1, hD1⟩)
        go_roundw
        case rel => exact ⟨1, by go_num, Lib.hid (.inr (.inl ⟨rfl, E1.out, h1, hD1⟩))⟩
        case measure => simp [intOf]
      · have n1 : (e1 != 0) = true := by simpa using h0
        have T : Hid (two d file acc = (d1, e1)) := Lib.hid (by rw [TW.out, if_pos h0])
        clear TW h0 C3
        go_wp2_with (go_at_call 122; (with_reducible refine (C2.out).mono ?_); rintro e w1 ⟨rfl, h1, hD1⟩; obtain ⟨y4, f4⟩ := L4.out _ h1)
        go_ret
        unfold ActsSay
        rw [T.out]
        obtain ⟨q1, q2, q3, q4⟩ := log_dead h1 hD1 (e1 == 40)
        exact ⟨rfl, q1, q2.more (Nat.le_succ _), q3, q4⟩
    · have r1 := R1.out _ h1
      have E1 := Lib.hid he
      have C := Lib.hid (C3.out _ h1 hD1)
      clear hrel C2 C3 he h1 hD1
      by_cases h0 : e2 = 0
      · have E2 := Lib.hid h0
        rw [h0] at C
        clear h0
        go_wp2_with (go_at_call 123; (with_reducible refine (C.out).mono ?_); rintro e w1 ⟨rfl, h1, hD1⟩)
        go_roundw
        case rel => exact ⟨2, by go_num, Lib.hid (.inr (.inr ⟨rfl, E1.out, E2.out, h1, hD1⟩))⟩
        case measure => simp [intOf]
      · have n1 : (e2 != 0) = true := by simpa using h0
        have T : Hid (two d file acc = (d2, e2)) := Lib.hid (by rw [TW.out, if_neg (by simp [E1.out])])
        clear TW h0
        go_wp2_with (go_at_call 123; (with_reducible refine (C.out).mono ?_); rintro e w1 ⟨rfl, h1, hD1⟩; obtain ⟨y4, f4⟩ := L4.out _ h1)
        go_ret
        unfold ActsSay
        rw [T.out]
        obtain ⟨q1, q2, q3, q4⟩ := log_dead h1 hD1 (e2 == 40)
        exact ⟨rfl, q1, q2, q3, q4⟩
    · have T : Hid (two d file acc = (d2, 0)) := Lib.hid (by rw [TW.out, if_neg (by simp [he]), hee])
      have H2 := Lib.hid h2
      have HD2 := Lib.hid hD2
      clear hrel C2 C3 TW he hee h2 hD2
      go_wp2_with (fail)
      go_ret
      unfold ActsSay
      rw [T.out]
      refine ⟨rfl, H2.out.g0, HD2.out, ?_, H2.out.fr⟩
      have hl := H2.out.log
      have : ({ x with dead := ((0 : Int) == 40) } : Lw) = x := by cases x; simp at HX ⊢; exact HX.out
      rw [this]
      exact hl
end Go.Proofs.YtifiipmmgnmciaaGreatDoor.Wl
