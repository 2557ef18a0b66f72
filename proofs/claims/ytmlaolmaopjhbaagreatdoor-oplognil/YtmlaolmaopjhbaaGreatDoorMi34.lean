/- Joined by mkmerged.py: WlSpec, WlFrame, WlLog. -/
import Derived.Test.YtmlaolmaopjhbaaGreatDoorMi28
import Derived.Test.YtmlaolmaopjhbaaGreatDoorMi15
import Derived.Test.YtmlaolmaopjhbaaGreatDoorMi13
import Derived.Test.YtmlaolmaopjhbaaGreatDoorMi16
import Derived.Test.YtmlaolmaopjhbaaGreatDoorMi22
import Derived.Test.YtmlaolmaopjhbaaGreatDoorMi14
import Derived.Test.YtmlaolmaopjhbaaGreatDoorMi17
import Derived.Test.YtmlaolmaopjhbaaGreatDoorMi04
import Derived.Test.YtmlaolmaopjhbaaGreatDoorMi29
import Derived.BigRegion
import Derived.Test.YtmlaolmaopjhbaaGreatDoorMi30
/- WlSpec, what a claim needs of it (prune.py). -/
namespace Go.Proofs.YtmlaolmaopjhbaaGreatDoor.Wl
open Go
open Dk (Dk Fd)
abbrev B := List UInt8
set_option linter.unusedVariables false
def short (s : B) : B := (Blk.sum s).take 8
def frame (s : B) : B := Pk.text (short s) ++ Pk.text s
def frames (l : B) : List B × Nat :=
  match _h : Pk.nxt l with
  | .bad _ => ([], l.length)
  | .ok a q => match _h2 : Pk.nxt q with
    | .bad _ => ([], l.length)
    | .ok s r => if a = short s then (s :: (frames r).1, (frames r).2) else ([], l.length)
termination_by l.length
decreasing_by
  all_goals
    have := Pk.nxt_lt _h
    have := Pk.nxt_lt _h2
    omega
theorem frames_bad {l : B} {c : Nat} (h : Pk.nxt l = .bad c) : frames l = ([], l.length) := by
  rw [frames]
  split
  · rfl
  · rename_i h2; rw [h] at h2; cases h2
theorem frames_bad2 {l a q : B} {c : Nat} (h : Pk.nxt l = .ok a q) (h2 : Pk.nxt q = .bad c) : frames l = ([], l.length) := by
  rw [frames]
  split
  · rfl
  · rename_i a' q' h3; rw [h] at h3; injection h3 with h3 h4; subst h3 h4
    split
    · rfl
    · rename_i h5; rw [h2] at h5; cases h5
theorem frames_ok {l a q s r : B} (h : Pk.nxt l = .ok a q) (h2 : Pk.nxt q = .ok s r) : frames l = if a = short s then (s :: (frames r).1, (frames r).2) else ([], l.length) := by
  rw [frames]
  split
  · rename_i h3; rw [h] at h3; cases h3
  · rename_i a' q' h3; rw [h] at h3; injection h3 with h3 h4; subst h3 h4
    split
    · rename_i h5; rw [h2] at h5; cases h5
    · rename_i h5; rw [h2] at h5; injection h5 with h5 h6; subst h5 h6; rfl
theorem short_len (s : B) : (short s).length = 8 := by unfold short; rw [List.length_take, Blk.sum_len]; rfl
theorem frames_frame {s : B} (hs : s.length < 10000000) (r : B) : frames (frame s ++ r) = (s :: (frames r).1, (frames r).2) := by
  unfold frame
  rw [List.append_assoc, frames_ok (Pk.nxt_text (by rw [short_len]; decide) _) (Pk.nxt_text hs r), if_pos rfl]
theorem frames_nil : frames [] = ([], 0) := frames_bad (c := 10) (by rfl)
def name (n k : Nat) : B := [108, 111, 103, 45] ++ Lib.decDigits n ++ [45] ++ Lib.decDigits k
theorem dec_inj {a b : Nat} (h : Lib.decDigits a = Lib.decDigits b) : a = b := by rw [← Pk.dval_dec a, h, Pk.dval_dec]
theorem name_inj {n a b : Nat} (h : name n a = name n b) : a = b := dec_inj (List.append_cancel_left h)
def partsF (d : Dk) (n : Nat) : Nat → Nat → List B
  | 0, _ => []
  | f + 1, k => if (Dk.read d (name n k)).2 = 0 then name n k :: partsF d n f (k + 1) else []
def parts (d : Dk) (n : Nat) : List B := partsF d n (d.l.length + 1) 0
theorem nodup_le {α : Type} [DecidableEq α] : ∀ {l m : List α}, l.Nodup → (∀ x ∈ l, x ∈ m) → l.length ≤ m.length
  | [], m, _, _ => by simp
  | x :: l, m, hn, hs => by
    have hx := hs x (by simp)
    have hn' := List.nodup_cons.1 hn
    have := nodup_le (l := l) (m := m.erase x) hn'.2 (fun y hy => (List.mem_erase_of_ne (fun e => hn'.1 (by rw [← e]; exact hy))).2 (hs y (by simp [hy])))
    rw [List.length_erase_of_mem hx] at this
    have := List.length_pos_of_mem hx
    simp only [List.length_cons]
    omega
theorem read_mem {d : Dk} {n : B} (h : (Dk.read d n).2 = 0) : ∃ f ∈ d.l, f.n = n := by
  unfold Dk.read Dk.find at h
  by_cases hw : Dk.wrong d n = 0
  · rw [if_neg (by simp [hw])] at h
    cases hg : Dk.get d.l n with
    | none => rw [hg] at h; simp at h
    | some f => exact ⟨f, Dk.get_mem hg⟩
  · rw [if_pos hw] at h; exact absurd h hw
theorem parts_le {d : Dk} {n k : Nat} (h : ∀ j < k, (Dk.read d (name n j)).2 = 0) : k ≤ d.l.length := by
  have h1 : ((List.range k).map (name n)).Nodup := by
    unfold List.Nodup
    rw [List.pairwise_map]
    exact List.nodup_range.imp (fun hab e => hab (name_inj e))
  have := nodup_le (m := d.l.map Fd.n) h1 (fun x hx => by
    obtain ⟨j, hj, rfl⟩ := List.mem_map.1 hx
    obtain ⟨f, hf, e⟩ := read_mem (h j (List.mem_range.1 hj))
    exact List.mem_map.2 ⟨f, hf, e⟩)
  simpa using this
def take (d : Dk) (p : B) : (List B × Nat × Int) × Dk :=
  if (Dk.read d p).2 ≠ 0 then (([], 0, (Dk.read d p).2), d) else
  if (Dk.sync d p).2 ≠ 0 then (([], 0, (Dk.sync d p).2), (Dk.sync d p).1) else
  (((frames (Dk.read d p).1).1, (frames (Dk.read d p).1).2, 0), (Dk.sync d p).1)
structure Lw where
  number : Nat
  part : Nat
  many : Nat
  dead : Bool
def takes (d : Dk) (out : List B) (part : Nat) (i : Nat) : List B → (Int × List B × Nat) × Dk
  | [] => ((0, out, part), d)
  | p :: l => if (take d p).1.2.2 ≠ 0 then (((take d p).1.2.2, [], 0), (take d p).2) else
    takes (take d p).2 (out ++ (take d p).1.1) (if 0 < (take d p).1.2.1 then i + 1 else i) (i + 1) l
end Go.Proofs.YtmlaolmaopjhbaaGreatDoor.Wl
/- WlFrame, what a claim needs of it (prune.py). -/
namespace Go.Proofs.YtmlaolmaopjhbaaGreatDoor.Wl
open Go.RowKit
set_option linter.unusedVariables false
set_option maxRecDepth 100000
theorem tl_len (s : ByteArray) : (tl s).length = s.size := (Lib.size_eq s).symm
theorem short_any (s : ByteArray) (hs : s.size ≤ 1000000) (w : World) :
    Calls Tryz.prog 152 #[.string s] w fun e w' => e = .returned (.string (bs (short (tl s)))) ∧ Below w.heap.size w w' := by
  obtain ⟨R, eR⟩ : ∃ R, R = bs (Blk.sum (tl s)) := ⟨_, rfl⟩
  have SM : Hid (Calls Tryz.prog 192 #[.string s] w fun e w' => e = .returned (.string R) ∧ Below w.heap.size w w') := Lib.hid (by rw [eR]; exact sum_any s hs w)
  have hR : R.size = 32 := by rw [eR, bs_size, Blk.sum_len]
  have OUT : Hid (R.extract 0 8 = bs (short (tl s))) := Lib.hid (by
    rw [← bs_of (R.extract 0 8), Lib.extract_data, eR]
    unfold short
    simp
    rfl)
  have q1 : (8 : Int) ≤ (R.size : Int) := by omega
  have q2 : 8 ≤ R.size := by omega
  clear eR hs hR
  go_enter Tryz.func152, Tryz.ntmps152
  go_wp2_with (go_at_call 192; (with_reducible refine (SM.out).mono ?_); rintro e w1 ⟨rfl, hb1⟩)
  go_ret
  exact ⟨ret_str (by rw [← OUT.out]), hb1⟩
theorem frame_any (s : ByteArray) (hs : s.size ≤ 1000000) (w : World) (ht : Tab w) :
    Calls Tryz.prog 85 #[.string s] w fun e w' => e = .returned (.string (bs (frame (tl s)))) ∧ Below w.heap.size w w' := by
  have SH := Lib.hid (short_any s hs w)
  have hl := short_len (tl s)
  have hts := tl_len s
  have T1 : Hid (∀ W, Below w.heap.size w W → Calls Tryz.prog 87 #[.string (bs (short (tl s)))] W fun e w' => e = .returned (.string (bs (Pk.text (short (tl s))))) ∧ Below W.heap.size W w') := Lib.hid fun W hW => text_any _ (by rw [bs_size]; omega) W (ht.on hW)
  have T2 : Hid (∀ W, Below w.heap.size w W → Calls Tryz.prog 87 #[.string s] W fun e w' => e = .returned (.string (bs (Pk.text (tl s)))) ∧ Below W.heap.size W w') := Lib.hid fun W hW => text_any s (by omega) W (ht.on hW)
  have F : Hid (bs (Pk.text (short (tl s))) ++ bs (Pk.text (tl s)) = bs (frame (tl s))) := Lib.hid (by unfold frame; rw [bs_append])
  have z1 : (bs (Pk.text (short (tl s)))).size ≤ 100 := by
    rw [bs_size]
    have := Pk.dec_len_le 7 (short (tl s)).length (by omega)
    unfold Pk.text
    simp only [List.length_append, List.length_cons, List.length_nil]
    omega
  have z2 : (bs (Pk.text (tl s))).size ≤ 2000000 := by
    rw [bs_size]
    have := Pk.dec_len_le 7 (tl s).length (by omega)
    unfold Pk.text
    simp only [List.length_append, List.length_cons, List.length_nil]
    omega
  clear ht hl hts
  generalize bs (Pk.text (short (tl s))) = X at *
  generalize bs (Pk.text (tl s)) = Y at *
  generalize bs (short (tl s)) = Z at *
  go_enter Tryz.func85, Tryz.ntmps85
  go_wp2_with (first
    | (go_at_call 152; (with_reducible refine (SH.out).mono ?_); rintro e w1 ⟨rfl, hb1⟩)
    | (go_at_call 87; (with_reducible refine (T1.out _ hb1).mono ?_); rintro e w2 ⟨rfl, hb2⟩; have hb12 := hb1.trans (hb2.mono hb1.size))
    | (go_at_call 87; (with_reducible refine (T2.out _ hb12).mono ?_); rintro e w3 ⟨rfl, hb3⟩; have hb13 := hb12.trans (hb3.mono hb12.size)))
  go_ret
  exact ⟨ret_str F.out, hb13⟩
theorem name_any (n k : Nat) (hn : n ≤ 100000000) (hk : k ≤ 100000000) (w : World) (ht : Tab w) :
    Calls Tryz.prog 101 #[.int .i64 (n : Int), .int .i64 (k : Int)] w fun e w' => e = .returned (.string (bs (name n k))) ∧ Below w.heap.size w w' := by
  have I1 := Lib.hid (itoa_any n (by omega) w ht)
  have I2 : Hid (∀ W, Below w.heap.size w W → Calls Tryz.prog 153 #[.int .i64 (k : Int)] W fun e w' => e = .returned (.string (bs (Lib.decDigits k))) ∧ Below W.heap.size W w') := Lib.hid fun W hW => itoa_any k (by omega) W (ht.on hW)
  have z1 : (bs (Lib.decDigits n)).size ≤ 100 := by rw [bs_size]; have := Pk.dec_len_le 8 n (by omega); omega
  have z2 : (bs (Lib.decDigits k)).size ≤ 100 := by rw [bs_size]; have := Pk.dec_len_le 8 k (by omega); omega
  have F : Hid (((⟨#[108, 111, 103, 45]⟩ : ByteArray) ++ bs (Lib.decDigits n) ++ (⟨#[45]⟩ : ByteArray) ++ bs (Lib.decDigits k)) = bs (name n k)) := Lib.hid (by
    rw [show (⟨#[108, 111, 103, 45]⟩ : ByteArray) = bs [108, 111, 103, 45] from rfl, show (⟨#[45]⟩ : ByteArray) = bs [45] from rfl, bs_append, bs_append, bs_append]
    rfl)
  clear ht hn hk
  generalize bs (Lib.decDigits n) = X at *
  generalize bs (Lib.decDigits k) = Y at *
  go_enter Tryz.func101, Tryz.ntmps101
  go_wp2_with (first
    | (go_at_call 153; (with_reducible refine (I1.out).mono ?_); rintro e w1 ⟨rfl, hb1⟩)
    | (go_at_call 153; (with_reducible refine (I2.out _ hb1).mono ?_); rintro e w2 ⟨rfl, hb2⟩))
  go_ret
  exact ⟨ret_str F.out, hb1.trans (hb2.mono hb1.size)⟩
def FramesSay (l : B) (w : World) (e : Ending) (w' : World) : Prop := ∃ v, e = .returned (.tuple #[v, .int .i64 ((frames l).2 : Int)]) ∧ w'.ownsRow w.heap.size 9 1 v (frames l).1.length ((frames l).1.map fun t => Value.string (bs t)) ∧ Below w.heap.size w w'
theorem rleft_any (b : Nat) (r : Pk.Rd) (hb : r.bad = 0) (w : World) (h : RdAt w b r) :
    Calls Tryz.prog 180 #[.pointer (some ⟨b, 0, none⟩)] w fun e w' => e = .returned (.int .i64 (r.rest.length : Int)) ∧ w = w' := by
  obtain ⟨l, bad⟩ := r
  have hb' : bad = 0 := hb
  subst hb'
  have c0 : w.cell? ⟨b, 0, none⟩ = some (.string (bs l)) := (cell_heap h 0).trans rfl
  have c1 : w.cell? ⟨b, 1, none⟩ = some (.int .i64 0) := (cell_heap h 1).trans rfl
  have hz : Hid ((bs l).size = l.length) := Lib.hid (bs_size l)
  clear h hb
  generalize bs l = s at *
  go_enter Tryz.func180, Tryz.ntmps180
  go_wp2_with (fail)
  go_ret
  exact ⟨ret_val (by rw [← hz.out]; rfl), rfl⟩
def leftOf (b : Nat) (w : World) : Nat := match w.cell? ⟨b, 0, none⟩ with
  | some (.string s) => s.size
  | _ => 0
theorem leftOf_rd {b : Nat} {w : World} {l : B} {c : Nat} (h : RdAt w b ⟨l, c⟩) : leftOf b w = l.length := by
  unfold leftOf
  rw [show w.cell? ⟨b, 0, none⟩ = some (.string (bs l)) from (cell_heap h 0).trans rfl]
  exact bs_size l
theorem tx_bad {l : B} {c : Nat} (h : Pk.nxt l = .bad c) : Pk.Rd.text ⟨l, 0⟩ = ([], ⟨l, c⟩) := by unfold Pk.Rd.text; simp [h]
theorem tx_ok {l a q : B} (h : Pk.nxt l = .ok a q) : Pk.Rd.text ⟨l, 0⟩ = (a, ⟨q, 0⟩) := by unfold Pk.Rd.text; simp [h]
theorem tx_dead {l : B} {c : Nat} (h : c ≠ 0) : Pk.Rd.text ⟨l, c⟩ = ([], ⟨l, c⟩) := by unfold Pk.Rd.text; simp [h]
theorem text_eq_of {b : Nat} {r r2 : Pk.Rd} {t : B} (hs : r.rest.length ≤ 1000000000) (e : r.text = (t, r2)) (W : World) (h : RdAt W b r) :
    Calls Tryz.prog 137 #[.pointer (some ⟨b, 0, none⟩)] W fun e w' => e = .returned (.string (bs t)) ∧ RdAt w' b r2 ∧ W.grownBy w' (some b) := by
  have := rtext_any b r hs W h
  rw [e] at this
  exact this
set_option maxHeartbeats 8000000 in
theorem frames_any (l : B) (hl : l.length ≤ 1000000) (w : World) :
    Calls Tryz.prog 135 #[.string (bs l)] w (FramesSay l w) := by
  have RD := Lib.hid (read_any l w)
  have RET : Hid (∀ (cur : B) (pre : List B) v w1 w', frames l = (pre, cur.length) → Below w.heap.size w w1 → Below w.heap.size w w' → w'.ownsRow w1.heap.size 9 1 v pre.length (pre.map fun t => Value.string (bs t)) → FramesSay l w (.returned (.tuple #[v, .int .i64 (cur.length : Int)])) w') := Lib.hid fun cur pre v w1 w' e hb1 hb ho => by
    unfold FramesSay
    rw [e]
    exact ⟨v, rfl, own_base ho hb1.size, hb⟩
  go_enter Tryz.func135, Tryz.ntmps135
  go_wp2_with (go_at_call 69; (with_reducible refine (RD.out).mono ?_); rintro e w1 ⟨rfl, hr1, hb1⟩)
  have hlt1 : w.heap.size < w1.heap.size := lt_heap hr1
  go_loopw [5] (fun v wx => ∃ (cur : B) (pre : List B), RdAt wx w.heap.size ⟨cur, 0⟩ ∧ wx.ownsRow w1.heap.size 9 1 v pre.length (pre.map fun t => Value.string (bs t)) ∧ frames l = (pre ++ (frames cur).1, (frames cur).2) ∧ pre.length + cur.length ≤ l.length ∧ Below w.heap.size w wx ∧ w1.heap.size ≤ wx.heap.size) (fun _ wx => leftOf w.heap.size wx)
  case atStart => exact ⟨l, [], hr1, World.ownsRow_nil _ _ _ _, by simp, by simp, hb1, Nat.le_refl _⟩
  case round =>
    obtain ⟨cur, pre, hrd, hown, hfr, hpc, hbx, hsx⟩ := hrel
    rename World => wx
    have hcl : cur.length ≤ 1000000 := by omega
    have LF := Lib.hid (rleft_any w.heap.size ⟨cur, 0⟩ rfl wx hrd)
    obtain ⟨p, m, k, rfl⟩ := own_form hown
    have HM : Hid (leftOf w.heap.size wx = cur.length) := Lib.hid (leftOf_rd hrd)
    rcases hn : Pk.nxt cur with c | ⟨a, q⟩
    · have hc := nxt_bad hn
      have hc0 : c ≠ 0 := by omega
      rw [frames_bad hn, List.append_nil] at hfr
      have T1 := Lib.hid (text_eq_of (b := w.heap.size) (by show cur.length ≤ _; omega) (tx_bad hn))
      have T2 := Lib.hid (text_eq_of (b := w.heap.size) (r := ⟨cur, c⟩) (by show cur.length ≤ _; omega) (tx_dead hc0))
      have ED : Hid (∀ W, RdAt W w.heap.size ⟨cur, c⟩ → Calls Tryz.prog 71 #[.pointer (some ⟨w.heap.size, 0, none⟩)] W fun e w' => e = .returned (.int .i64 (c : Int)) ∧ W = w') := Lib.hid fun W h => by
        have := rend_any w.heap.size ⟨cur, c⟩ W h
        rw [show Pk.Rd.fin ⟨cur, c⟩ = c from by simp [Pk.Rd.fin, hc0]] at this
        exact this
      have RT := Lib.hid (fun w' h1 h2 => RET.out cur pre (.slice p m k) w1 w' hfr hb1 h1 h2)
      have OW := Lib.hid hown
      have HX := Lib.hid hbx
      have HL := Lib.hid hlt1
      clear hfr hown hn hc0 hbx hr1 hb1 hlt1 RET RD hpc hcl hsx
      rcases hc with rfl | rfl
      all_goals
        go_wp2_with (first
          | (go_at_call 180; (with_reducible refine (LF.out).mono ?_); rintro e w2 ⟨rfl, rfl⟩)
          | (go_at_call 137; (with_reducible refine (T1.out _ hrd).mono ?_); rintro e w2 ⟨rfl, hr2, hg2⟩)
          | (go_at_call 137; (with_reducible refine (T2.out _ hr2).mono ?_); rintro e w3 ⟨rfl, hr3, hg3⟩)
          | (go_at_call 71; (with_reducible refine (ED.out _ hr3).mono ?_); rintro e w4 ⟨rfl, rfl⟩))
        go_ret2
        exact RT.out _ ((HX.out.grown hg2 HX.out.size (fun k e => by injection e with e; omega)).grown hg3 (Nat.le_trans HX.out.size hg2.size) (fun k e => by injection e with e; omega)) (own_grownX (own_grownX OW.out hg2 HL.out) hg3 HL.out)
    · rcases hn2 : Pk.nxt q with c | ⟨s, r⟩
      · have hc := nxt_bad hn2
        have hc0 : c ≠ 0 := by omega
        have hql := Pk.nxt_lt hn
        rw [frames_bad2 hn hn2, List.append_nil] at hfr
        have T1 := Lib.hid (text_eq_of (b := w.heap.size) (by show cur.length ≤ _; omega) (tx_ok hn))
        have T2 := Lib.hid (text_eq_of (b := w.heap.size) (r := ⟨q, 0⟩) (by show q.length ≤ _; omega) (tx_bad hn2))
        have ED : Hid (∀ W, RdAt W w.heap.size ⟨q, c⟩ → Calls Tryz.prog 71 #[.pointer (some ⟨w.heap.size, 0, none⟩)] W fun e w' => e = .returned (.int .i64 (c : Int)) ∧ W = w') := Lib.hid fun W h => by
          have := rend_any w.heap.size ⟨q, c⟩ W h
          rw [show Pk.Rd.fin ⟨q, c⟩ = c from by simp [Pk.Rd.fin, hc0]] at this
          exact this
        have RT := Lib.hid (fun w' h1 h2 => RET.out cur pre (.slice p m k) w1 w' hfr hb1 h1 h2)
        have OW := Lib.hid hown
        have HX := Lib.hid hbx
        have HL := Lib.hid hlt1
        clear hfr hown hn hn2 hc0 hbx hr1 hb1 hlt1 RET RD hpc hcl hsx hql
        rcases hc with rfl | rfl
        all_goals
          go_wp2_with (first
            | (go_at_call 180; (with_reducible refine (LF.out).mono ?_); rintro e w2 ⟨rfl, rfl⟩)
            | (go_at_call 137; (with_reducible refine (T1.out _ hrd).mono ?_); rintro e w2 ⟨rfl, hr2, hg2⟩)
            | (go_at_call 137; (with_reducible refine (T2.out _ hr2).mono ?_); rintro e w3 ⟨rfl, hr3, hg3⟩)
            | (go_at_call 71; (with_reducible refine (ED.out _ hr3).mono ?_); rintro e w4 ⟨rfl, rfl⟩))
          go_ret2
          exact RT.out _ ((HX.out.grown hg2 HX.out.size (fun k e => by injection e with e; omega)).grown hg3 (Nat.le_trans HX.out.size hg2.size) (fun k e => by injection e with e; omega)) (own_grownX (own_grownX OW.out hg2 HL.out) hg3 HL.out)
      · have hql := Pk.nxt_lt hn
        have hrl := Pk.nxt_lt hn2
        have hsl : s.length ≤ q.length := by
          have := rtext_lt ⟨q, 0⟩
          rw [tx_ok hn2] at this
          exact this
        have hfo := frames_ok hn hn2
        have T1 := Lib.hid (text_eq_of (b := w.heap.size) (by show cur.length ≤ _; omega) (tx_ok hn))
        have T2 := Lib.hid (text_eq_of (b := w.heap.size) (r := ⟨q, 0⟩) (by show q.length ≤ _; omega) (tx_ok hn2))
        have SH : Hid (∀ W, Calls Tryz.prog 152 #[.string (bs s)] W fun e w' => e = .returned (.string (bs (short s))) ∧ Below W.heap.size W w') := Lib.hid fun W => short_any (bs s) (by rw [bs_size]; omega) W
        obtain ⟨c, hcc, hce⟩ : ∃ c : Nat, (c = 0 ∨ c = 12) ∧ Pk.Rd.fin ⟨r, 0⟩ = c := by
          by_cases h0 : r = []
          · exact ⟨0, .inl rfl, by simp [Pk.Rd.fin, h0]⟩
          · exact ⟨12, .inr rfl, by simp [Pk.Rd.fin, h0]⟩
        have ED : Hid (∀ W, RdAt W w.heap.size ⟨r, 0⟩ → Calls Tryz.prog 71 #[.pointer (some ⟨w.heap.size, 0, none⟩)] W fun e w' => e = .returned (.int .i64 (c : Int)) ∧ W = w') := Lib.hid fun W h => by
          have := rend_any w.heap.size ⟨r, 0⟩ W h
          rw [hce] at this
          exact this
        clear hce
        by_cases ha : a = short s
        · rw [hfo, if_pos ha] at hfr
          rw [ha] at T1
          have hk9 : pre.length + 1 ≤ 1000000000 := by omega
          have PM : Hid ((pre ++ [s]).map (fun t => Value.string (bs t)) = pre.map (fun t => Value.string (bs t)) ++ [.string (bs s)]) := Lib.hid (by simp)
          have FR : Hid (frames l = ((pre ++ [s]) ++ (frames r).1, (frames r).2)) := Lib.hid (by rw [hfr]; simp)
          have LN : Hid ((pre ++ [s]).length + r.length ≤ l.length) := Lib.hid (by rw [List.length_append, List.length_singleton]; omega)
          have RC : Hid (r.length < cur.length) := Lib.hid (by omega)
          have OW := Lib.hid hown
          have HX := Lib.hid hbx
          have HL := Lib.hid hlt1
          have HS := Lib.hid hsx
          clear hfr hown hn hn2 hbx hr1 hb1 hlt1 RET RD hpc hcl hsx hql hrl hsl hfo ha
          generalize bs (short s) = sh at *
          rcases hcc with rfl | rfl
          all_goals
            go_wp2_with (first
              | (go_at_call 180; (with_reducible refine (LF.out).mono ?_); rintro e w2 ⟨rfl, rfl⟩)
              | (go_at_call 137; (with_reducible refine (T1.out _ hrd).mono ?_); rintro e w2 ⟨rfl, hr2, hg2⟩)
              | (go_at_call 137; (with_reducible refine (T2.out _ hr2).mono ?_); rintro e w3 ⟨rfl, hr3, hg3⟩)
              | (go_at_call 71; (with_reducible refine (ED.out _ hr3).mono ?_); rintro e w4 ⟨rfl, rfl⟩)
              | (go_at_call 152; (with_reducible refine (SH.out _).mono ?_); rintro e w4 ⟨rfl, hb4⟩; have hown4 := own_later (own_grownX (own_grownX OW.out hg2 HL.out) hg3 HL.out) hb4; have hB4 : w1.heap.size ≤ w4.heap.size := Nat.le_trans HS.out (Nat.le_trans hg2.size (Nat.le_trans hg3.size hb4.size)))
              | (at_builtin; refine append_one (w0 := w4) rfl (.tmp 34) (.tmp 36) 65 rfl w1.heap.size 9 _ 16 Tryz.underlying65 str_info rfl (by decide) _ pre.length _ rfl hown4 (.string (bs s)) rfl rfl hk9 hB4 (Below.refl _ _) ?_; intro v' w6 hown6 hb6 _))
            have hr6 : RdAt w6 w.heap.size ⟨r, 0⟩ := heap_below hb6 HL.out (hr3.later hb4)
            have hL := HL.out
            have hbw : Below w.heap.size w w6 := (((HX.out.grown hg2 HX.out.size (fun k e => by injection e with e; omega)).grown hg3 (Nat.le_trans HX.out.size hg2.size) (fun k e => by injection e with e; omega)).trans (hb4.mono (Nat.le_trans HX.out.size (Nat.le_trans hg2.size hg3.size)))).trans (hb6.mono (Nat.le_of_lt HL.out))
            go_roundw
            case rel =>
              refine ⟨r, pre ++ [s], hr6, ?_, FR.out, LN.out, hbw, Nat.le_trans hB4 hb6.size⟩
              rw [PM.out, List.length_append]
              exact hown6
            case measure =>
              rw [HM.out, leftOf_rd hr6]
              exact RC.out
        · rw [hfo, if_neg ha, List.append_nil] at hfr
          have hne : ¬ bs a = bs (short s) := fun e => ha (by have := congrArg tl e; simpa [bs, tl] using this)
          have RT := Lib.hid (fun w' h1 h2 => RET.out cur pre (.slice p m k) w1 w' hfr hb1 h1 h2)
          have OW := Lib.hid hown
          have HX := Lib.hid hbx
          have HL := Lib.hid hlt1
          clear hfr hown hn hn2 hbx hr1 hb1 hlt1 RET RD hpc hcl hsx hql hrl hsl hfo ha
          generalize bs (short s) = sh at *
          generalize bs a = av at *
          have hne2 : (av.toList == sh.toList) = false := Lg.s_ne hne
          have hne3 : ¬ av.toList = sh.toList := fun e => by rw [e] at hne2; simp at hne2
          clear hne
          rcases hcc with rfl | rfl
          all_goals
            go_wp2_with (first
              | (go_at_call 180; (with_reducible refine (LF.out).mono ?_); rintro e w2 ⟨rfl, rfl⟩)
              | (go_at_call 137; (with_reducible refine (T1.out _ hrd).mono ?_); rintro e w2 ⟨rfl, hr2, hg2⟩)
              | (go_at_call 137; (with_reducible refine (T2.out _ hr2).mono ?_); rintro e w3 ⟨rfl, hr3, hg3⟩)
              | (go_at_call 71; (with_reducible refine (ED.out _ hr3).mono ?_); rintro e w4 ⟨rfl, rfl⟩)
              | (go_at_call 152; (with_reducible refine (SH.out _).mono ?_); rintro e w4 ⟨rfl, hb4⟩))
            go_ret2
            exact RT.out _ (((HX.out.grown hg2 HX.out.size (fun k e => by injection e with e; omega)).grown hg3 (Nat.le_trans HX.out.size hg2.size) (fun k e => by injection e with e; omega)).trans (hb4.mono (Nat.le_trans HX.out.size (Nat.le_trans hg2.size hg3.size)))) (own_later (own_grownX (own_grownX OW.out hg2 HL.out) hg3 HL.out) hb4)
end Go.Proofs.YtmlaolmaopjhbaaGreatDoor.Wl
/- WlLog, what a claim needs of it (prune.py). -/
namespace Go.Proofs.YtmlaolmaopjhbaaGreatDoor.Wl
open Go.RowKit
open Dk (Dk Fd Kp DkS DkAt read find sync sz)
set_option linter.unusedVariables false
set_option maxRecDepth 100000
structure LogAt (W : World) (bl b : Nat) (x : Lw) : Prop where
  st : W.heap[bl]? = some (.cells #[.pointer (some ⟨b, 0, none⟩), .int .i64 (x.number : Int), .int .i64 (x.part : Int), .int .i64 (x.many : Int), .bool x.dead] 109 (0, 0))
theorem LogAt.lt {W : World} {bl b : Nat} {x : Lw} (h : LogAt W bl b x) : bl < W.heap.size := Lg.lt_heap h.st
theorem LogAt.kp {S : Nat → Prop} {W W' : World} {bl b : Nat} {x : Lw} (h : LogAt W bl b x) (k : Kp S W W') (hs : ¬ S bl) : LogAt W' bl b x := ⟨(k.block _ h.lt hs).trans h.st⟩
theorem LogAt.below {W W' : World} {bl b : Nat} {x : Lw} (h : LogAt W bl b x) (k : Below W.heap.size W W') : LogAt W' bl b x := ⟨(k.block _ h.lt).trans h.st⟩
theorem LogAt.ne {W : World} {bl b b' m n : Nat} {x : Lw} {d : Dk} (h : LogAt W bl b' x) (hD : DkAt W b m n d) : bl ≠ b ∧ bl ≠ m := by
  constructor
  · intro e
    have h1 := h.st
    rw [e, hD.st] at h1
    injection h1 with h1
    injection h1 with _ h1 _
    exact absurd h1 (by decide)
  · intro e
    have hc : W.cell? ⟨bl, 0, none⟩ = some (.pointer (some ⟨b', 0, none⟩)) := (cell_heap h.st 0).trans rfl
    exact hD.map.nocell hc e
theorem LogAt.notS {W : World} {bl b b' m n : Nat} {x : Lw} {d : Dk} (h : LogAt W bl b' x) (hD : DkAt W b m n d) : ¬ DkS b m bl := fun e => by
  rcases e with e | e
  · exact (h.ne hD).1 e
  · exact (h.ne hD).2 e
theorem lives_any (W : World) (bl b : Nat) (x : Lw) (h : LogAt W bl b x) :
    Calls Tryz.prog 84 #[.pointer (some ⟨bl, 0, none⟩)] W fun e w' => e = .returned (.int .i64 (if x.dead = true then 40 else 0)) ∧ W = w' := by
  have c4 : W.cell? ⟨bl, 4, none⟩ = some (.bool x.dead) := (cell_heap h.st 4).trans rfl
  clear h
  generalize x.dead = v at *
  cases v
  all_goals
    go_enter Tryz.func84, Tryz.ntmps84
    go_wp2_with (fail)
    go_ret
    exact ⟨rfl, rfl⟩
theorem plen_any (W : World) (bl b : Nat) (x : Lw) (h : LogAt W bl b x) :
    Calls Tryz.prog 31 #[.pointer (some ⟨bl, 0, none⟩)] W fun e w' => e = .returned (.int .i64 (x.many : Int)) ∧ W = w' := by
  have c3 : W.cell? ⟨bl, 3, none⟩ = some (.int .i64 (x.many : Int)) := (cell_heap h.st 3).trans rfl
  clear h
  go_enter Tryz.func31, Tryz.ntmps31
  go_wp2_with (fail)
  go_ret
  exact ⟨rfl, rfl⟩
theorem partsF_end {d : Dk} {n : Nat} : ∀ (f k0 K : Nat), k0 ≤ K → K - k0 < f → (∀ j, k0 ≤ j → j < K → (read d (name n j)).2 = 0) → (read d (name n K)).2 ≠ 0 → partsF d n f k0 = (List.range' k0 (K - k0)).map (name n)
  | 0, _, _, _, h, _, _ => absurd h (by omega)
  | f + 1, k0, K, h0, h1, h2, h3 => by
    unfold partsF
    by_cases he : k0 = K
    · subst he
      rw [if_neg h3, Nat.sub_self]
      rfl
    · rw [if_pos (h2 k0 (Nat.le_refl _) (by omega)), partsF_end f (k0 + 1) K (by omega) (by omega) (fun j hj => h2 j (by omega)) h3]
      rw [show K - k0 = (K - (k0 + 1)) + 1 by omega, List.range'_succ, List.map_cons]
theorem parts_end {d : Dk} {n K : Nat} (h : ∀ j < K, (read d (name n j)).2 = 0) (h3 : (read d (name n K)).2 ≠ 0) : parts d n = (List.range K).map (name n) := by
  have hK := parts_le h
  unfold parts
  rw [partsF_end (d.l.length + 1) 0 K (by omega) (by omega) (fun j _ hj => h j hj) h3, List.range_eq_range']
  rfl
def sliceLen : Value → Nat
  | .slice _ n _ => n
  | _ => 0
abbrev strs (l : List B) : List Value := l.map fun t => Value.string (bs t)
def PartsSay (d : Dk) (n : Nat) (W : World) (e : Ending) (w' : World) : Prop := ∃ v, e = .returned v ∧ w'.ownsRow W.heap.size 9 1 v (parts d n).length (strs (parts d n)) ∧ Below W.heap.size W w'
theorem name_size {n k : Nat} (hn : n ≤ 100000000) (hk : k ≤ 100000000) : (bs (name n k)).size ≤ maxLen := by
  rw [bs_size]
  have h1 := Pk.dec_len_le 8 n (by omega)
  have h2 := Pk.dec_len_le 8 k (by omega)
  unfold name maxLen
  simp only [List.length_append, List.length_cons, List.length_nil]
  omega
theorem own_len {w : World} {B n : Nat} {p : Option Addr} {m c : Nat} {e : TypeId} {size : Nat} {xs : List Value} (h : w.ownsRow B e size (.slice p m c) n xs) : m = n := by
  rcases h.2 with ⟨h1, h2⟩ | ⟨g, cap, cur, h1, _⟩
  · injection h1; omega
  · injection h1
set_option maxHeartbeats 2000000 in
theorem parts_any (b m nn : Nat) (d : Dk) (n : Nat) (W : World) (hD : DkAt W b m nn d) (hn : n ≤ 100000000) (hL : d.l.length ≤ 1000000) (ht : Tab W) :
    Calls Tryz.prog 65 #[.pointer (some ⟨b, 0, none⟩), .int .i64 (n : Int)] W (PartsSay d n W) := by
  have NM := Lib.hid (fun (k : Nat) (hk : k ≤ 100000000) (W' : World) (hW : Below W.heap.size W W') => name_any n k hn hk W' (ht.on hW))
  have RD := Lib.hid (fun (k : Nat) (hk : k ≤ 100000000) (W' : World) (hW : Below W.heap.size W W') => Dk.pread_any b m nn d (bs (name n k)) W' (hD.below hW) (name_size hn hk))
  have PL := Lib.hid (fun (k : Nat) (h : ∀ j < k, (read d (name n j)).2 = 0) => parts_le h)
  have PE := Lib.hid (fun (k : Nat) (h : ∀ j < k, (read d (name n j)).2 = 0) => parts_end (n := n) (K := k) h)
  clear hD ht
  go_enter Tryz.func65, Tryz.ntmps65
  go_wp2_with (fail)
  go_loopw [5] (fun v wx => ∃ k : Nat, wx.ownsRow W.heap.size 9 1 v k (strs ((List.range k).map (name n))) ∧ Hid (∀ j < k, (read d (name n j)).2 = 0) ∧ Below W.heap.size W wx) (fun v _ => d.l.length + 1 - sliceLen v)
  case atStart => exact ⟨0, World.ownsRow_nil _ _ _ _, Lib.hid (fun j hj => absurd hj (by omega)), Below.refl _ _⟩
  case round =>
    obtain ⟨k, hown, hok, hbx⟩ := hrel
    rename World => wx
    have hkl := PL.out k hok.out
    obtain ⟨p, mm, cc, rfl⟩ := own_form hown
    have hmk : mm = k := own_len hown
    subst mm
    have N1 := Lib.hid (NM.out k (by omega) wx hbx)
    have R1 : Hid (∀ w1, Below wx.heap.size wx w1 → Calls Tryz.prog 63 #[.pointer (some ⟨b, 0, none⟩), .string (bs (name n k))] w1 fun e w' => e = .returned (.tuple #[.string (bs (read d (name n k)).1), .int .i64 (read d (name n k)).2]) ∧ Below w1.heap.size w1 w') := Lib.hid fun w1 h1 => RD.out k (by omega) w1 (hbx.trans (h1.mono hbx.size))
    have HX := Lib.hid hbx
    have OW := Lib.hid hown
    clear NM RD PL hown hbx
    by_cases h0 : (read d (name n k)).2 = 0
    · rw [h0] at R1
      have OK : Hid (∀ j < k + 1, (read d (name n j)).2 = 0) := Lib.hid fun j hj => by
        rcases Nat.lt_succ_iff_lt_or_eq.1 hj with h | h
        · exact hok.out j h
        · rw [h]; exact h0
      have PM : Hid (strs ((List.range (k + 1)).map (name n)) = strs ((List.range k).map (name n)) ++ [.string (bs (name n k))]) := Lib.hid (by rw [List.range_succ]; simp)
      have hk9 : k + 1 ≤ 1000000000 := by omega
      clear h0 PE hok
      go_wp2_with (first
        | (go_at_call 101; (with_reducible refine (N1.out).mono ?_); rintro e w1 ⟨rfl, hb1⟩)
        | (go_at_call 63; (with_reducible refine (R1.out _ hb1).mono ?_); rintro e w2 ⟨rfl, hb2⟩; have hb12 := hb1.trans (hb2.mono hb1.size); have hown2 := own_later OW.out hb12; have hB2 : W.heap.size ≤ w2.heap.size := Nat.le_trans HX.out.size hb12.size)
        | (at_builtin; refine append_one (w0 := w2) rfl (.tmp 22) (.tmp 24) 65 rfl W.heap.size 9 _ 16 Tryz.underlying65 str_info rfl (by decide) _ k _ rfl hown2 (.string (bs (name n k))) rfl rfl hk9 hB2 (Below.refl _ _) ?_; intro v' w3 hown3 hb3 _))
      go_roundw
      case rel =>
        refine ⟨k + 1, ?_, OK.out, (HX.out.trans (hb12.mono HX.out.size)).trans hb3⟩
        rw [PM.out]
        exact hown3
      case measure =>
        obtain ⟨p', m', c', rfl⟩ := own_form hown3
        have := own_len hown3
        simp only [sliceLen]
        omega
    · have F : Hid (parts d n = (List.range k).map (name n)) := Lib.hid (PE.out k hok.out h0)
      have n1 : ((read d (name n k)).2 != 0) = true := by simpa using h0
      clear PE hok
      generalize (read d (name n k)).2 = ee at *
      go_wp2_with (first
        | (go_at_call 101; (with_reducible refine (N1.out).mono ?_); rintro e w1 ⟨rfl, hb1⟩)
        | (go_at_call 63; (with_reducible refine (R1.out _ hb1).mono ?_); rintro e w2 ⟨rfl, hb2⟩; have hb12 := hb1.trans (hb2.mono hb1.size)))
      go_ret
      refine ⟨_, rfl, ?_, HX.out.trans (hb12.mono HX.out.size)⟩
      rw [F.out, List.length_map, List.length_range]
      exact own_later OW.out hb12
def TakeSays (b m nn : Nat) (d : Dk) (s : B) (W : World) (e : Ending) (w' : World) : Prop := (∃ v, e = .returned (.tuple #[v, .int .i64 ((take d s).1.2.1 : Int), .int .i64 (take d s).1.2.2]) ∧ w'.ownsRow W.heap.size 9 1 v (take d s).1.1.length (strs (take d s).1.1)) ∧ DkAt w' b m (nn + 1) (take d s).2 ∧ Kp (DkS b m) W w'
set_option maxHeartbeats 2000000 in
theorem take_any (b m nn bl : Nat) (d : Dk) (x : Lw) (s : ByteArray) (W : World) (hD : DkAt W b m nn d) (hG : LogAt W bl b x) (hs : s.size ≤ maxLen) (hn : nn < maxLen) (hz : (read d (tl s)).1.length ≤ 1000000) :
    Calls Tryz.prog 68 #[.pointer (some ⟨bl, 0, none⟩), .string s] W (TakeSays b m nn d (tl s) W) := by
  obtain ⟨dt, hdt⟩ : ∃ dt, dt = (read d (tl s)).1 := ⟨_, rfl⟩
  obtain ⟨e1, he1⟩ : ∃ e1, e1 = (read d (tl s)).2 := ⟨_, rfl⟩
  obtain ⟨e2, he2⟩ : ∃ e2, e2 = (sync d (tl s)).2 := ⟨_, rfl⟩
  obtain ⟨d2, hd2⟩ : ∃ d2, d2 = (sync d (tl s)).1 := ⟨_, rfl⟩
  have R : Hid (Calls Tryz.prog 63 #[.pointer (some ⟨b, 0, none⟩), .string s] W fun e w' => e = .returned (.tuple #[.string (bs dt), .int .i64 e1]) ∧ Below W.heap.size W w') := Lib.hid (by rw [hdt, he1]; exact Dk.pread_any b m nn d s W hD hs)
  have SY : Hid (∀ w1, Below W.heap.size W w1 → Calls Tryz.prog 91 #[.pointer (some ⟨b, 0, none⟩), .string s] w1 fun e w' => e = .returned (.int .i64 e2) ∧ DkAt w' b m (nn + 1) d2 ∧ Kp (DkS b m) w1 w') := Lib.hid fun w1 h1 => by rw [he2, hd2]; exact Dk.psync_any b m nn d s w1 (hD.below h1) hs hn
  have FR : Hid (∀ W', Calls Tryz.prog 135 #[.string (bs dt)] W' fun e w' => ∃ v, e = .returned (.tuple #[v, .int .i64 ((frames dt).2 : Int)]) ∧ w'.ownsRow W'.heap.size 9 1 v (frames dt).1.length ((frames dt).1.map fun t => Value.string (bs t)) ∧ Below W'.heap.size W' w') := Lib.hid fun W' => frames_any dt (by rw [hdt]; exact hz) W'
  have C0 : Hid (∀ w1, Below W.heap.size W w1 → w1.cell? ⟨bl, 0, none⟩ = some (.pointer (some ⟨b, 0, none⟩))) := Lib.hid fun w1 h1 => (cell_heap (hG.below h1).st 0).trans rfl
  have c0 : W.cell? ⟨bl, 0, none⟩ = some (.pointer (some ⟨b, 0, none⟩)) := C0.out _ (Below.refl _ _)
  have TK : Hid (take d (tl s) = if e1 ≠ 0 then (([], 0, e1), d) else if e2 ≠ 0 then (([], 0, e2), d2) else (((frames dt).1, (frames dt).2, 0), d2)) := Lib.hid (by rw [he1, he2, hd2, hdt]; rfl)
  have HD := Lib.hid hD
  clear hD hG hz hdt he1 he2 hd2
  by_cases h1 : e1 = 0
  · subst h1
    by_cases h2 : e2 = 0
    · subst h2
      have T : Hid (take d (tl s) = (((frames dt).1, (frames dt).2, 0), d2)) := Lib.hid (by rw [TK.out]; simp)
      clear TK
      generalize bs dt = q at *
      go_enter Tryz.func68, Tryz.ntmps68
      go_wp2_with (first
        | (go_at_call 63; (with_reducible refine (R.out).mono ?_); rintro e w1 ⟨rfl, hb1⟩; have c1 := C0.out _ hb1)
        | (go_at_call 91; (with_reducible refine (SY.out _ hb1).mono ?_); rintro e w2 ⟨rfl, hd2, hk2⟩)
        | (go_at_call 135; (with_reducible refine (FR.out _).mono ?_); rintro e w3 ⟨v, rfl, ho, hb3⟩; obtain ⟨p, mm, c, rfl⟩ := own_form ho))
      go_ret3
      unfold TakeSays
      rw [T.out]
      exact ⟨⟨_, rfl, own_base ho (Nat.le_trans hb1.size hk2.size)⟩, hd2.below hb3, ((Kp.of_below hb1).trans hk2).then hb3⟩
    · have T : Hid (take d (tl s) = (([], 0, e2), d2)) := Lib.hid (by rw [TK.out]; simp [h2])
      have n1 : (e2 != 0) = true := by simpa using h2
      clear TK FR
      generalize bs dt = q at *
      go_enter Tryz.func68, Tryz.ntmps68
      go_wp2_with (first
        | (go_at_call 63; (with_reducible refine (R.out).mono ?_); rintro e w1 ⟨rfl, hb1⟩; have c1 := C0.out _ hb1)
        | (go_at_call 91; (with_reducible refine (SY.out _ hb1).mono ?_); rintro e w2 ⟨rfl, hd2, hk2⟩))
      go_ret3
      unfold TakeSays
      rw [T.out]
      exact ⟨⟨_, rfl, World.ownsRow_nil _ _ _ _⟩, hd2, (Kp.of_below hb1).trans hk2⟩
  · have T : Hid (take d (tl s) = (([], 0, e1), d)) := Lib.hid (by rw [TK.out]; simp [h1])
    have n1 : (e1 != 0) = true := by simpa using h1
    clear TK FR SY
    generalize bs dt = q at *
    go_enter Tryz.func68, Tryz.ntmps68
    go_wp2_with (go_at_call 63; (with_reducible refine (R.out).mono ?_); rintro e w1 ⟨rfl, hb1⟩; have c1 := C0.out _ hb1)
    go_ret3
    unfold TakeSays
    rw [T.out]
    exact ⟨⟨_, rfl, World.ownsRow_nil _ _ _ _⟩, (HD.out.below hb1).more (Nat.le_succ _), Kp.of_below hb1⟩
end Go.Proofs.YtmlaolmaopjhbaaGreatDoor.Wl
