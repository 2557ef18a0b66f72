/- Joined by mkmerged.py: PkRead, PkBack, Rk. -/
import Derived.Test.YtcpkhaebcmgehaaGreatDoorMa15
import Derived.Test.YtcpkhaebcmgehaaGreatDoorMa14
import Derived.Test.YtcpkhaebcmgehaaGreatDoorRows
import Derived.WalkKit
import Derived.ProofKit
import Derived.OpenShut
import Derived.ShutString
import Derived.Below
import Derived.ChangeSame
import Derived.Deep.Slices
import Derived.Deep.Fields
import Derived.ReadAgain
import Derived.ChangeBears
import Derived.SliceStrings
import Derived.ChangeMaps5
/- The contracts of pack's next and of its Reader. -/
namespace Go.Proofs.YtcpkhaebcmgehaaGreatDoor
open Go.RowKit
set_option linter.unusedVariables false
set_option maxRecDepth 100000
def nxV : Pk.Nx → Value
  | .bad c => .tuple #[.string ⟨#[]⟩, .string ⟨#[]⟩, .int .i64 c]
  | .ok t r => .tuple #[.string (bs t), .string (bs r), .int .i64 0]
theorem len_bad {l : List UInt8} {c : Nat} (h : Pk.len l = .inl c) : c = 10 ∨ c = 11 := by
  unfold Pk.len at h
  simp only at h
  split at h
  · injection h with h; exact .inl h.symm
  · split at h
    · injection h with h; exact .inr h.symm
    · cases h
theorem len_good {l r : List UInt8} {n : Nat} (h : Pk.len l = .inr (n, r)) : r.length ≤ l.length ∧ n < 100000000 := by
  unfold Pk.len at h
  simp only at h
  split at h
  · cases h
  · split at h
    · cases h
    · injection h with h
      injection h with h1 h2
      subst h1 h2
      refine ⟨by simp, ?_⟩
      refine dval_lt _ (fun c hc => ?_) (by rw [List.length_take]; have := (kd_le l).2; omega)
      obtain ⟨j, hj, rfl⟩ := List.mem_iff_getElem.1 hc
      rw [List.length_take] at hj
      obtain ⟨c, h1, h2, h3⟩ := kd_dig (s := l) (j := j) (by omega)
      rw [List.getElem_take]
      have := (List.getElem?_eq_some_iff.1 h1).2
      rw [this]
      exact ⟨h2, h3⟩
set_option maxHeartbeats 4000000 in
theorem next_any (l : List UInt8) (hs : l.length ≤ 1000000000) (w : World) :
    Calls Tryz.prog 131 #[.string (bs l)] w fun e w' => e = .returned (nxV (Pk.nxt l)) ∧ Below w.heap.size w w' := by
  have LN := length_any (bs l) (by rw [bs_size]; omega)
  rw [show tl (bs l) = l from rfl] at LN
  rcases hlen : Pk.len l with c | ⟨n, r⟩
  · have hc := len_bad hlen
    have HV : Hid (nxV (Pk.nxt l) = .tuple #[.string ⟨#[]⟩, .string ⟨#[]⟩, .int .i64 c]) := Lib.hid (by unfold Pk.nxt; rw [hlen]; rfl)
    rw [hlen, show lenV (.inl c) = .tuple #[.int .i64 0, .string ⟨#[]⟩, .int .i64 c] from rfl] at LN
    have LNH := Lib.hid LN
    clear LN hlen
    rcases hc with rfl | rfl
    all_goals
      go_enter Tryz.func131, Tryz.ntmps131
      go_wp2_with (go_at_call 164; ((with_reducible refine (LNH.out _).mono ?_); rintro e w1 ⟨rfl, hb1⟩))
      go_ret3
      exact ⟨ret_val HV.out, hb1⟩
  · obtain ⟨hr, hn⟩ := len_good hlen
    rw [hlen, show lenV (.inr (n, r)) = .tuple #[.int .i64 n, .string (bs r), .int .i64 0] from rfl] at LN
    have LNH := Lib.hid LN
    clear LN
    have hrs := bs_size r
    obtain ⟨R, eR⟩ : ∃ R, R = bs r := ⟨_, rfl⟩
    have hRl : tl R = r := by rw [eR]; rfl
    rw [← eR] at LNH hrs
    have OUT : nxV (Pk.nxt l) = if r.length ≤ n then .tuple #[.string ⟨#[]⟩, .string ⟨#[]⟩, .int .i64 10] else if r.getD n 0 ≠ 44 then .tuple #[.string ⟨#[]⟩, .string ⟨#[]⟩, .int .i64 11] else .tuple #[.string (bs (r.take n)), .string (bs (r.drop (n + 1))), .int .i64 0] := by
      unfold Pk.nxt
      rw [hlen]
      simp only
      split
      · rfl
      · split <;> rfl
    by_cases h1 : r.length ≤ n
    · have HV := Lib.hid (OUT.trans (if_pos h1))
      have i1 : R.size ≤ n := by omega
      have i1' : (R.size : Int) ≤ (n : Int) := by omega
      clear OUT hlen eR hRl hrs
      go_enter Tryz.func131, Tryz.ntmps131
      go_wp2_with (go_at_call 164; ((with_reducible refine (LNH.out _).mono ?_); rintro e w1 ⟨rfl, hb1⟩))
      go_ret3
      exact ⟨ret_val HV.out, hb1⟩
    · have i1 : ¬ R.size ≤ n := by omega
      have hnR : n < R.size := by omega
      have i2 : (n : Int) < (R.size : Int) := by omega
      have i3 : (n : Int) + 1 ≤ (R.size : Int) := by omega
      have i4 : (n : Int) ≤ (R.size : Int) := by omega
      have hg : r.getD n 0 = R[n] := by rw [← hRl]; exact getD_byte hnR
      have hq : (r.getD n 0 ≠ 44) ↔ R[n].toNat ≠ 44 := by rw [hg, ne_eq, ne_eq, ← UInt8.toNat_inj]; rfl
      by_cases h2 : R[n].toNat ≠ 44
      · have HV := Lib.hid ((OUT.trans (if_neg h1)).trans (if_pos (hq.2 h2)))
        have j1 : (R[n].toNat : Int) ≠ 44 := by omega
        clear OUT hlen eR hRl hrs hg hq
        go_enter Tryz.func131, Tryz.ntmps131
        go_wp2_with (go_at_call 164; ((with_reducible refine (LNH.out _).mono ?_); rintro e w1 ⟨rfl, hb1⟩))
        go_ret3
        exact ⟨ret_val HV.out, hb1⟩
      · have hV := (OUT.trans (if_neg h1)).trans (if_neg (fun h => h2 (hq.1 h)))
        have b1 : bs (r.take n) = R.extract 0 n := by rw [← bs_of (R.extract 0 n), Lib.extract_data, show R.data.toList = r from hRl]; simp
        have b2 : bs (r.drop (n + 1)) = R.extract (n + 1) R.size := by rw [← bs_of (R.extract (n + 1) R.size), Lib.extract_to_end, show R.data.toList = r from hRl]
        rw [b1, b2] at hV
        have HV := Lib.hid hV
        have j1 : (R[n].toNat : Int) = 44 := by omega
        clear OUT hlen eR hRl hrs hg hq hV b1 b2 h2
        go_enter Tryz.func131, Tryz.ntmps131
        go_wp2_with (go_at_call 164; ((with_reducible refine (LNH.out _).mono ?_); rintro e w1 ⟨rfl, hb1⟩))
        go_quiet (fail)
        go_wp2
        go_ret3
        exact ⟨ret_val HV.out, hb1.trans (belowDN (Below.refl _ _) _)⟩

/-- a reader in a block -/
def RdAt (w : World) (b : Nat) (r : Pk.Rd) : Prop := w.heap[b]? = some (.cells #[.string (bs r.rest), .int .i64 r.bad] 171 (0, 0))
set_option maxHeartbeats 4000000 in
theorem rtext_any (b : Nat) (r : Pk.Rd) (hs : r.rest.length ≤ 1000000000) (w : World) (h : RdAt w b r) :
    Calls Tryz.prog 84 #[.pointer (some ⟨b, 0, none⟩)] w fun e w' => e = .returned (.string (bs r.text.1)) ∧ RdAt w' b r.text.2 ∧ w.grownBy w' (some b) := by
  obtain ⟨l, bad⟩ := r
  have c0 : w.cell? ⟨b, 0, none⟩ = some (.string (bs l)) := (cell_heap h 0).trans rfl
  have c1 : w.cell? ⟨b, 1, none⟩ = some (.int .i64 bad) := (cell_heap h 1).trans rfl
  by_cases hb : bad = 0
  · subst hb
    have f0 : w.frozen? ⟨b, 0, none⟩ = false := frozen_heap h 0
    have f1 : w.frozen? ⟨b, 1, none⟩ = false := frozen_heap h 1
    have NX := next_any l hs w
    rcases hn : Pk.nxt l with c | ⟨t, q⟩
    · rw [hn, show nxV (.bad c) = .tuple #[.string ⟨#[]⟩, .string ⟨#[]⟩, .int .i64 c] from rfl] at NX
      have hc : c = 10 ∨ c = 11 := by
        unfold Pk.nxt at hn
        split at hn
        · rename_i e he; injection hn with hn; subst hn; exact len_bad he
        · split at hn
          · injection hn with hn; exact .inl hn.symm
          · split at hn
            · injection hn with hn; exact .inr hn.symm
            · cases hn
      have HT : Hid (Pk.Rd.text ⟨l, 0⟩ = ([], ⟨l, c⟩)) := Lib.hid (by unfold Pk.Rd.text; simp [hn])
      have NXH := Lib.hid NX
      clear NX hn
      have hbl : b < w.heap.size := lt_heap h
      have H := Lib.hid h
      clear h
      rcases hc with rfl | rfl
      all_goals
        go_enter Tryz.func84, Tryz.ntmps84
        go_wp2_with (go_at_call 131; ((with_reducible refine (NXH.out).mono ?_); rintro e w1 ⟨rfl, hb1⟩; have d1 := (hb1.cell (p := ⟨b, 1, none⟩) hbl).trans c1; have g1 := (hb1.frozen (p := ⟨b, 1, none⟩) hbl).trans f1))
        go_ret
        refine ⟨ret_str (by rw [HT.out]; rfl), ?_, ?_⟩
        · rw [HT.out]
          exact heap_set (heap_below hb1 hbl H.out)
        · exact grown_set (grown_of_below hb1 _) (.inr rfl) _ _
    · rw [hn, show nxV (.ok t q) = .tuple #[.string (bs t), .string (bs q), .int .i64 0] from rfl] at NX
      have HT : Hid (Pk.Rd.text ⟨l, 0⟩ = (t, ⟨q, 0⟩)) := Lib.hid (by unfold Pk.Rd.text; simp [hn])
      have NXH := Lib.hid NX
      clear NX hn
      have hbl : b < w.heap.size := lt_heap h
      have H := Lib.hid h
      clear h
      go_enter Tryz.func84, Tryz.ntmps84
      go_wp2_with (go_at_call 131; ((with_reducible refine (NXH.out).mono ?_); rintro e w1 ⟨rfl, hb1⟩; have d1 := (hb1.cell (p := ⟨b, 0, none⟩) hbl).trans c0; have g1 := (hb1.frozen (p := ⟨b, 0, none⟩) hbl).trans f0))
      go_ret
      refine ⟨ret_str (by rw [HT.out]), ?_, ?_⟩
      · rw [HT.out]
        exact heap_set (heap_below hb1 hbl H.out)
      · exact grown_set (grown_of_below hb1 _) (.inr rfl) _ _
  · have n1 : ((bad : Int) != 0) = true := by simp; omega
    have HT : Hid (Pk.Rd.text ⟨l, bad⟩ = ([], ⟨l, bad⟩)) := Lib.hid (by unfold Pk.Rd.text; simp [hb])
    have H := Lib.hid h
    clear h
    go_enter Tryz.func84, Tryz.ntmps84
    go_wp2_with (fail)
    go_ret
    exact ⟨ret_str (by rw [HT.out]; rfl), by rw [HT.out]; exact H.out, grown_refl _ _⟩
end Go.Proofs.YtcpkhaebcmgehaaGreatDoor
/- The contracts of pack's Read, Reader.End and Reader.List. -/
namespace Go.Proofs.YtcpkhaebcmgehaaGreatDoor
open Go.RowKit
set_option linter.unusedVariables false
set_option maxRecDepth 100000
theorem read_any (l : List UInt8) (w : World) :
    Calls Tryz.prog 105 #[.string (bs l)] w fun e w' => e = .returned (.pointer (some ⟨w.heap.size, 0, none⟩)) ∧ RdAt w' w.heap.size ⟨l, 0⟩ ∧ Below w.heap.size w w' := by
  go_enter Tryz.func105, Tryz.ntmps105
  go_wp2_with (fail)
  go_ret
  exact ⟨rfl, heap_alloc_new w _, (Below.refl _ _).alloc (Nat.le_refl _) _⟩
theorem bs_nil : bs [] = ⟨#[]⟩ := rfl
theorem bs_ne {l : List UInt8} (h : l ≠ []) : (bs l).toList.isEmpty = false := by
  rw [Lib.toList_data]
  cases l with
  | nil => exact absurd rfl h
  | cons a l => rfl
theorem rend_any (b : Nat) (r : Pk.Rd) (w : World) (h : RdAt w b r) :
    Calls Tryz.prog 108 #[.pointer (some ⟨b, 0, none⟩)] w fun e w' => e = .returned (.int .i64 r.fin) ∧ w = w' := by
  obtain ⟨l, bad⟩ := r
  have c0 : w.cell? ⟨b, 0, none⟩ = some (.string (bs l)) := (cell_heap h 0).trans rfl
  have c1 : w.cell? ⟨b, 1, none⟩ = some (.int .i64 bad) := (cell_heap h 1).trans rfl
  clear h
  by_cases hb : bad = 0
  · subst hb
    by_cases hl : l = []
    · subst hl
      rw [bs_nil] at c0
      have HV : Hid (Pk.Rd.fin ⟨[], 0⟩ = 0) := Lib.hid (by simp [Pk.Rd.fin])
      go_enter Tryz.func108, Tryz.ntmps108
      go_wp2_with (fail)
      go_ret
      exact ⟨ret_val (by rw [HV.out]; rfl), rfl⟩
    · have HV : Hid (Pk.Rd.fin ⟨l, 0⟩ = 12) := Lib.hid (by simp [Pk.Rd.fin, hl])
      have e1 := bs_ne hl
      clear hl
      go_enter Tryz.func108, Tryz.ntmps108
      go_wp2_with (fail)
      go_ret
      exact ⟨ret_val (by rw [HV.out]; rfl), rfl⟩
  · have HV : Hid (Pk.Rd.fin ⟨l, bad⟩ = bad) := Lib.hid (by simp [Pk.Rd.fin, hb])
    have n1 : ((bad : Int) == 0) = false := by simp; omega
    clear hb
    go_enter Tryz.func108, Tryz.ntmps108
    go_wp2_with (fail)
    go_ret
    exact ⟨ret_val (by rw [HV.out]; rfl), rfl⟩
theorem lst_nil : Pk.lst [] = some [] := by rw [Pk.lst]; rfl
theorem lst_bad {l : List UInt8} {c : Nat} (h0 : l ≠ []) (h : Pk.nxt l = .bad c) : Pk.lst l = none := by
  rw [Pk.lst, if_neg h0]
  split
  · rfl
  · rename_i h2; rw [h] at h2; cases h2
theorem lst_ok {l t q : List UInt8} (h0 : l ≠ []) (h : Pk.nxt l = .ok t q) : Pk.lst l = (Pk.lst q).map (t :: ·) := by
  rw [Pk.lst, if_neg h0]
  split
  · rename_i h2; rw [h] at h2; cases h2
  · rename_i h2; rw [h] at h2; injection h2 with h3 h4; rw [h3, h4]
theorem nxt_bad {l : List UInt8} {c : Nat} (hn : Pk.nxt l = .bad c) : c = 10 ∨ c = 11 := by
  unfold Pk.nxt at hn
  split at hn
  · rename_i e he; injection hn with hn; subst hn; exact len_bad he
  · split at hn
    · injection hn with hn; exact .inl hn.symm
    · split at hn
      · injection hn with hn; exact .inr hn.symm
      · cases hn
theorem rtext_lt (r : Pk.Rd) : r.text.1.length ≤ r.rest.length := by
  unfold Pk.Rd.text
  split
  · simp
  · split
    · simp
    · rename_i t q h
      unfold Pk.nxt at h
      split at h
      · cases h
      · rename_i n r' he
        have := (len_good he).1
        split at h
        · cases h
        · split at h
          · cases h
          · injection h with h1 h2
            subst h1
            simp
            omega
def strLen : Value → Nat
  | .string s => s.size
  | _ => 0
/-- what Reader.List answers -/
def ListSays (b : Nat) (r : Pk.Rd) (w : World) (e : Ending) (w' : World) : Prop :=
  ∃ v, e = .returned v ∧ w'.ownsRow w.heap.size 9 1 v r.list.1.length (r.list.1.map fun t => Value.string (bs t)) ∧ RdAt w' b r.list.2 ∧ w.grownBy w' (some b)
theorem RdAt.later {w w' : World} {b : Nat} {r : Pk.Rd} (h : RdAt w b r) (k : Below w.heap.size w w') : RdAt w' b r := heap_below k (lt_heap h) h
theorem grown_below {w w1 w2 : World} {r : Option Nat} (h : w.grownBy w1 r) (k : Below w.heap.size w1 w2) : w.grownBy w2 r :=
  ⟨k.os.trans h.os, k.tape.trans h.tape, k.output.trans h.output, Nat.le_trans h.size k.size, fun b hb hr => (k.block b hb).trans (h.block b hb hr)⟩
set_option maxHeartbeats 4000000 in
theorem rlist_any (b : Nat) (r : Pk.Rd) (hs : r.rest.length ≤ 1000000000) (w : World) (h : RdAt w b r) :
    Calls Tryz.prog 107 #[.pointer (some ⟨b, 0, none⟩)] w (ListSays b r w) := by
  have RT := rtext_any b r hs w h
  have hl0 : r.text.1.length ≤ 1000000000 := Nat.le_trans (rtext_lt r) hs
  have RLS : Hid (∀ l, Pk.lst r.text.1 = some l → r.list = (l, r.text.2)) := Lib.hid (fun l h => by unfold Pk.Rd.list; rw [h])
  have RLN : Hid (Pk.lst r.text.1 = none → r.list = ([], ⟨r.text.2.rest, 11⟩)) := Lib.hid (fun h => by unfold Pk.Rd.list; rw [h])
  have hbw : b < w.heap.size := lt_heap h
  clear h
  generalize r.text.1 = s0 at *
  generalize r.text.2 = r1 at *
  have RTH := Lib.hid RT
  clear RT
  go_enter Tryz.func107, Tryz.ntmps107
  go_wp2_with (go_at_call 84; ((with_reducible refine (RTH.out).mono ?_); rintro e w1 ⟨rfl, hrd, hg1⟩))
  go_loopw [3, 4] (fun s v wx => ∃ cur pre, s = .string (bs cur) ∧ cur.length ≤ 1000000000 ∧ Pk.lst s0 = (Pk.lst cur).map (pre ++ ·) ∧ wx.ownsRow w.heap.size 9 1 v pre.length (pre.map fun t => Value.string (bs t)) ∧ pre.length + cur.length ≤ 1000000000 ∧ RdAt wx b r1 ∧ w.grownBy wx (some b)) (fun s _ _ => strLen s)
  case atStart => exact ⟨s0, [], rfl, hl0, by simp, by simpa using World.ownsRow_nil _ _ _ _, by simpa using hl0, hrd, hg1⟩
  case round =>
    obtain ⟨cur, pre, rfl, hcl, hls, hown, hpc, hrdx, hgx⟩ := hrel
    rename World => wx
    clear hrd hg1
    by_cases hc : cur = []
    · subst hc
      rw [lst_nil] at hls
      have RL := Lib.hid (RLS.out _ hls)
      clear hls hcl
      rw [bs_nil]
      obtain ⟨p, m, c', rfl⟩ := own_form hown
      go_wp2_with (fail)
      go_ret
      exact ⟨_, rfl, by rw [RL.out]; simpa using hown, by rw [RL.out]; exact hrdx, hgx⟩
    · have e1 := bs_ne hc
      have NX := next_any cur hcl wx
      have hBx := hgx.size
      rcases hn : Pk.nxt cur with c | ⟨t, q⟩
      · rw [hn, show nxV (.bad c) = .tuple #[.string ⟨#[]⟩, .string ⟨#[]⟩, .int .i64 c] from rfl] at NX
        have hcc := nxt_bad hn
        rw [lst_bad hc hn] at hls
        have RL := Lib.hid (RLN.out hls)
        have NXH := Lib.hid NX
        have HRD := Lib.hid hrdx
        have hbl : b < wx.heap.size := lt_heap hrdx
        have c1 : wx.cell? ⟨b, 1, none⟩ = some (.int .i64 r1.bad) := (cell_heap hrdx 1).trans rfl
        have f1 : wx.frozen? ⟨b, 1, none⟩ = false := frozen_heap hrdx 1
        clear NX hn hls hc hrdx
        rcases hcc with rfl | rfl
        all_goals
          go_wp2_with (go_at_call 131; ((with_reducible refine (NXH.out).mono ?_); rintro e w1 ⟨rfl, hb1⟩; have d1 := (hb1.cell (p := ⟨b, 1, none⟩) hbl).trans c1; have g1 := (hb1.frozen (p := ⟨b, 1, none⟩) hbl).trans f1))
          go_ret
          refine ⟨_, rfl, ?_, ?_, ?_⟩
          · rw [RL.out]; simpa using World.ownsRow_nil _ _ _ _
          · rw [RL.out]; exact heap_set (heap_below hb1 hbl HRD.out)
          · exact grown_set (grown_trans hgx (grown_of_below hb1 _)) (.inr rfl) _ _
      · rw [hn, show nxV (.ok t q) = .tuple #[.string (bs t), .string (bs q), .int .i64 0] from rfl] at NX
        have hql := Pk.nxt_lt hn
        rw [lst_ok hc hn] at hls
        have HLS : Hid (Pk.lst s0 = (Pk.lst q).map ((pre ++ [t]) ++ ·)) := Lib.hid (by rw [hls]; cases Pk.lst q <;> simp)
        have NXH := Lib.hid NX
        have hk9 : pre.length + 1 ≤ 1000000000 := by omega
        have PM : Hid ((pre ++ [t]).map (fun t => Value.string (bs t)) = pre.map (fun t => Value.string (bs t)) ++ [.string (bs t)]) := Lib.hid (by simp)
        clear NX hn hls hc
        go_wp2_with (first | (go_at_call 131; ((with_reducible refine (NXH.out).mono ?_); rintro e w1 ⟨rfl, hb1⟩; have hown1 := own_later hown hb1; have hB := Nat.le_trans hBx hb1.size; clear hown)) | (at_builtin; refine append_one (w0 := w1) rfl (.tmp 25) (.tmp 27) 23 rfl w.heap.size 9 _ 16 Tryz.underlying23 str_info rfl (by decide) _ pre.length _ rfl hown1 (.string (bs t)) rfl rfl hk9 hB (Below.refl _ _) ?_; intro v' w2 hown2 hb2 _))
        go_roundw
        case rel =>
          refine ⟨q, pre ++ [t], rfl, by omega, HLS.out, ?_, by simp; omega, heap_below hb2 hbw (hrdx.later hb1), grown_below (grown_trans hgx (grown_of_below hb1 _)) hb2⟩
          rw [PM.out, List.length_append]
          exact hown2
        case measure => simp only [strLen, bs_size]; omega
end Go.Proofs.YtcpkhaebcmgehaaGreatDoor
/- What is packed is read again, and what is read is packed as the same bytes: in plain Lean, no program in sight. -/
namespace Go.Proofs.YtcpkhaebcmgehaaGreatDoor.Pk
open Go
theorem isDig_dig (n : Nat) (h : n < 10) : isDig (UInt8.ofNat (48 + n)) = true := by
  have : (UInt8.ofNat (48 + n)).toNat = 48 + n := UInt8.toNat_ofNat_of_lt' (by show 48 + n < 256; omega)
  simp [isDig]; omega
theorem dec_small {n : Nat} (h : n < 10) : Lib.decDigits n = [UInt8.ofNat (48 + n)] := by rw [Lib.decDigits, dif_pos h]
theorem dec_big {n : Nat} (h : ¬ n < 10) : Lib.decDigits n = Lib.decDigits (n / 10) ++ [UInt8.ofNat (48 + n % 10)] := by rw [Lib.decDigits, dif_neg h]
theorem dec_dig : ∀ (n : Nat), ∀ c ∈ Lib.decDigits n, isDig c = true := by
  intro n
  induction n using Nat.strongRecOn with
  | _ n ih =>
    by_cases h : n < 10
    · rw [dec_small h]; intro c hc; rw [List.mem_singleton.1 hc]; exact isDig_dig n h
    · rw [dec_big h]
      intro c hc
      rcases List.mem_append.1 hc with h1 | h1
      · exact ih (n / 10) (by omega) c h1
      · rw [List.mem_singleton.1 h1]; exact isDig_dig _ (by omega)
theorem dec_ne (n : Nat) : Lib.decDigits n ≠ [] := by
  by_cases h : n < 10
  · rw [dec_small h]; simp
  · rw [dec_big h]; simp
theorem dval_append (l : List UInt8) (c : UInt8) : dval (l ++ [c]) = 10 * dval l + (c.toNat - 48) := by unfold dval; rw [List.foldl_append]; rfl
theorem dval_dec : ∀ (n : Nat), dval (Lib.decDigits n) = n := by
  intro n
  induction n using Nat.strongRecOn with
  | _ n ih =>
    by_cases h : n < 10
    · rw [dec_small h]
      have : (UInt8.ofNat (48 + n)).toNat = 48 + n := UInt8.toNat_ofNat_of_lt' (by show 48 + n < 256; omega)
      simp only [dval, List.foldl_cons, List.foldl_nil, this]; omega
    · rw [dec_big h, dval_append, ih (n / 10) (by omega)]
      have : (UInt8.ofNat (48 + n % 10)).toNat = 48 + n % 10 := UInt8.toNat_ofNat_of_lt' (by show 48 + n % 10 < 256; omega)
      rw [this]; omega
theorem dec_len_le : ∀ (k n : Nat), n < 10 ^ (k + 1) → (Lib.decDigits n).length ≤ k + 1 := by
  intro k
  induction k with
  | zero => intro n h; rw [dec_small (by simpa using h)]; simp
  | succ k ih =>
    intro n h
    by_cases h10 : n < 10
    · rw [dec_small h10]; simp
    · rw [dec_big h10, List.length_append]
      have := ih (n / 10) (by rw [Nat.pow_succ] at h; omega)
      simp; omega
/-- the first digit is no nought, save of 0 -/
theorem dec_head : ∀ (n : Nat), n ≠ 0 → (Lib.decDigits n).getD 0 0 ≠ 48 := by
  intro n
  induction n using Nat.strongRecOn with
  | _ n ih =>
    intro h0
    by_cases h : n < 10
    · rw [dec_small h]
      have : (UInt8.ofNat (48 + n)).toNat = 48 + n := UInt8.toNat_ofNat_of_lt' (by show 48 + n < 256; omega)
      intro e
      have e' : UInt8.ofNat (48 + n) = 48 := by simpa using e
      have h48 := congrArg UInt8.toNat e'
      rw [this] at h48
      have : (48 : UInt8).toNat = 48 := rfl
      omega
    · rw [dec_big h]
      have hl : 0 < (Lib.decDigits (n / 10)).length := List.length_pos_iff.2 (dec_ne _)
      rw [List.getD_eq_getElem?_getD, List.getElem?_append_left hl, ← List.getD_eq_getElem?_getD]
      exact ih (n / 10) (by omega) (by omega)
theorem takeWhile_all {p : UInt8 → Bool} {l r : List UInt8} {c : UInt8} (h : ∀ x ∈ l, p x = true) (hc : p c = false) : (l ++ c :: r).takeWhile p = l := by
  induction l with
  | nil => simp [hc]
  | cons a l ih => rw [List.cons_append, List.takeWhile_cons, if_pos (h a (List.mem_cons_self ..)), ih (fun x hx => h x (List.mem_cons_of_mem _ hx))]
theorem takeWhile_self {p : UInt8 → Bool} : ∀ {l : List UInt8}, (∀ x ∈ l, p x = true) → l.takeWhile p = l
  | [], _ => rfl
  | a :: l, h => by rw [List.takeWhile_cons, if_pos (h a (List.mem_cons_self ..)), takeWhile_self (fun x hx => h x (List.mem_cons_of_mem _ hx))]
theorem mem_while {p : UInt8 → Bool} : ∀ {l : List UInt8} {c : UInt8}, c ∈ l.takeWhile p → p c = true
  | [], c, h => by simp at h
  | a :: l, c, h => by
    rw [List.takeWhile_cons] at h
    by_cases ha : p a = true
    · rw [if_pos ha] at h
      rcases List.mem_cons.1 h with rfl | h
      · exact ha
      · exact mem_while h
    · rw [if_neg ha] at h; simp at h
theorem kd_dec {n : Nat} (hn : n < 10000000) (r : List UInt8) : kd (Lib.decDigits n ++ 58 :: r) = (Lib.decDigits n).length := by
  have h7 := dec_len_le 6 n hn
  unfold kd
  rcases Nat.lt_or_ge (Lib.decDigits n).length 7 with h | h
  · rw [List.take_append, List.take_of_length_le (by omega)]
    obtain ⟨k, hk⟩ : ∃ k, 7 - (Lib.decDigits n).length = k + 1 := ⟨6 - (Lib.decDigits n).length, by omega⟩
    rw [hk, List.take_succ_cons, takeWhile_all (dec_dig n) (by decide)]
  · have : (Lib.decDigits n).length = 7 := by omega
    rw [List.take_append_of_le_length (by omega), List.take_of_length_le (by omega)]
    congr 1
    exact takeWhile_self (dec_dig n)
/-- (1) a packed text is read -/
theorem nxt_text {s : List UInt8} (hs : s.length < 10000000) (r : List UInt8) : nxt (text s ++ r) = .ok s r := by
  have e : text s ++ r = Lib.decDigits s.length ++ 58 :: (s ++ 44 :: r) := by simp [text]
  have hk := kd_dec hs (s ++ 44 :: r)
  have hpos : 0 < (Lib.decDigits s.length).length := List.length_pos_iff.2 (dec_ne _)
  have hlen : len (text s ++ r) = .inr (s.length, s ++ 44 :: r) := by
    unfold len
    rw [e]
    simp only [hk]
    rw [if_neg (by simp), if_neg]
    · rw [List.take_left, dval_dec]
      congr 2
      rw [List.drop_append, List.drop_of_length_le (by omega)]
      simp
    · intro h
      rcases h with h | h | ⟨h1, h2⟩
      · apply h
        rw [List.getD_eq_getElem?_getD, List.getElem?_append_right (Nat.le_refl _)]
        simp
      · omega
      · rw [List.getD_eq_getElem?_getD, List.getElem?_append_left (by omega), ← List.getD_eq_getElem?_getD] at h2
        refine dec_head s.length (fun h0 => ?_) h2
        rw [h0, dec_small (by omega)] at h1
        simp at h1
  unfold nxt
  rw [hlen]
  simp only
  rw [if_neg (by simp), if_neg]
  · simp
  · rw [List.getD_eq_getElem?_getD, List.getElem?_append_right (Nat.le_refl _)]
    simp
theorem text_ne (s r : List UInt8) : text s ++ r ≠ [] := by simp [text]
theorem lst_cons {t q l : List UInt8} (h0 : l ≠ []) (h : nxt l = .ok t q) : lst l = (lst q).map (t :: ·) := by
  rw [lst, if_neg h0]
  split
  · rename_i h2; rw [h] at h2; cases h2
  · rename_i h2; rw [h] at h2; injection h2 with h3 h4; rw [h3, h4]
/-- (2) -/
theorem lst_flat : ∀ (l : List (List UInt8)), (∀ t ∈ l, t.length < 10000000) → lst (l.flatMap text) = some l
  | [], _ => by rw [List.flatMap_nil, lst]; rfl
  | t :: l, h => by
    rw [List.flatMap_cons, lst_cons (text_ne _ _) (nxt_text (h t (List.mem_cons_self ..)) _), lst_flat l (fun x hx => h x (List.mem_cons_of_mem _ hx))]
    rfl
theorem mem_flat {l : List (List UInt8)} {t : List UInt8} (h : t ∈ l) : t.length < (l.flatMap text).length := by
  induction l with
  | nil => cases h
  | cons a l ih =>
    rw [List.flatMap_cons, List.length_append]
    rcases List.mem_cons.1 h with rfl | h
    · simp [text]; omega
    · have := ih h; omega
/-- a reader of a packed text -/
theorem text_read {s : List UInt8} (hs : s.length < 10000000) (r : List UInt8) : Rd.text ⟨text s ++ r, 0⟩ = (s, ⟨r, 0⟩) := by
  unfold Rd.text
  simp [nxt_text hs r]
theorem text_read' {s : List UInt8} (hs : s.length < 10000000) : Rd.text ⟨text s, 0⟩ = (s, ⟨[], 0⟩) := by
  have := text_read hs []
  rwa [List.append_nil] at this
/-- (3) -/
theorem list_read {l : List (List UInt8)} (hs : (l.flatMap text).length < 10000000) (r : List UInt8) : Rd.list ⟨list l ++ r, 0⟩ = (l, ⟨r, 0⟩) := by
  unfold Rd.list list
  rw [text_read hs r, lst_flat l (fun t ht => by have := mem_flat ht; omega)]
theorem list_read' {l : List (List UInt8)} (hs : (l.flatMap text).length < 10000000) : Rd.list ⟨list l, 0⟩ = (l, ⟨[], 0⟩) := by
  have := list_read hs []
  rwa [List.append_nil] at this
theorem fin_done : Rd.fin ⟨[], 0⟩ = 0 := by simp [Rd.fin]
/-- (5) things that are laid one by one are read again -/
theorem all_back {α : Type} {takes : Rd → α × Rd} {lays : α → List UInt8} {l : List α} (ht : ∀ x ∈ l, takes ⟨lays x, 0⟩ = (x, ⟨[], 0⟩)) (hs : ((l.map lays).flatMap text).length < 10000000) : all takes (list (l.map lays)) = (l, 0) := by
  have he : ∀ m : List α, (∀ x ∈ m, takes ⟨lays x, 0⟩ = (x, ⟨[], 0⟩)) → each takes (m.map lays) = some m := by
    intro m
    induction m with
    | nil => intro _; rfl
    | cons a m ih =>
      intro h
      rw [List.map_cons, each, h a (List.mem_cons_self ..), if_neg (by simp [fin_done]), ih (fun x hx => h x (List.mem_cons_of_mem _ hx))]
      rfl
  unfold all
  rw [list_read' hs]
  simp only [fin_done]
  rw [he l ht]
  rfl

/-! ### and back -/
theorem dval_cons_lt : ∀ (l : List UInt8) (a : Nat), 0 < a → a ≤ l.foldl (fun n c => 10 * n + (c.toNat - 48)) a
  | [], a, _ => Nat.le_refl _
  | c :: l, a, h => Nat.le_trans (by omega) (dval_cons_lt l (10 * a + (c.toNat - 48)) (by omega))
theorem dig_of {c : UInt8} (h : isDig c = true) : ∃ d, d < 10 ∧ c = UInt8.ofNat (48 + d) ∧ c.toNat = 48 + d := by
  simp only [isDig, Bool.and_eq_true, decide_eq_true_eq] at h
  refine ⟨c.toNat - 48, by omega, ?_, by omega⟩
  apply UInt8.toNat_inj.1
  rw [UInt8.toNat_ofNat_of_lt' (by show 48 + (c.toNat - 48) < 256; omega)]
  omega
/-- digits without a nought ahead are a number's own -/
theorem dec_dval (l : List UInt8) : (∀ c ∈ l, isDig c = true) → l ≠ [] → (1 < l.length → l.getD 0 0 ≠ 48) → Lib.decDigits (dval l) = l := by
  induction h : l.length using Nat.strongRecOn generalizing l with
  | _ n ih =>
    intro hd h0 hz
    rcases List.eq_nil_or_concat l with rfl | ⟨m, c, rfl⟩
    · exact absurd rfl h0
    · rw [List.concat_eq_append] at *
      obtain ⟨d, hd10, hc, hcn⟩ := dig_of (hd c (by simp))
      rw [dval_append, hcn]
      by_cases hm : m = []
      · subst hm
        rw [show 10 * dval [] + (48 + d - 48) = d by simp [dval], dec_small hd10, hc]
        rfl
      · have hml : 0 < m.length := List.length_pos_iff.2 hm
        have hg : (m ++ [c]).getD 0 0 = m.getD 0 0 := by
          rw [List.getD_eq_getElem?_getD, List.getElem?_append_left hml, ← List.getD_eq_getElem?_getD]
        have hz' := hz (by simp at h; omega)
        rw [hg] at hz'
        have h1 := ih m.length (by simp at h; omega) m rfl (fun x hx => hd x (by simp [hx])) hm (fun _ => hz')
        have hpos : 0 < dval m := by
          cases m with
          | nil => exact absurd rfl hm
          | cons a m =>
            obtain ⟨e, he10, hae, haen⟩ := dig_of (hd a (by simp))
            have : a ≠ 48 := by simpa using hz'
            have he : e ≠ 0 := fun h => this (by rw [hae, h]; rfl)
            unfold dval
            rw [List.foldl_cons, haen]
            exact Nat.lt_of_lt_of_le (by omega) (dval_cons_lt m _ (by omega))
        rw [dec_big (by omega), show (10 * dval m + (48 + d - 48)) / 10 = dval m by omega, show (10 * dval m + (48 + d - 48)) % 10 = d by omega, h1, hc]
theorem kd_le' (s : List UInt8) : kd s ≤ s.length := by
  have := (List.takeWhile_prefix (p := isDig) (l := s.take 7)).length_le
  unfold kd
  simp at this ⊢
  omega
theorem kd_take (s : List UInt8) : ∀ c ∈ s.take (kd s), isDig c = true := by
  have hp := List.takeWhile_prefix (p := isDig) (l := s.take 7)
  have e : s.take (kd s) = (s.take 7).takeWhile isDig := by
    have h7 : kd s ≤ 7 := by
      have := hp.length_le
      unfold kd
      simp at this ⊢
      omega
    have h1 : (s.take 7).take (kd s) = s.take (kd s) := by rw [List.take_take, Nat.min_eq_left h7]
    rw [← h1]
    exact (List.prefix_iff_eq_take.1 hp).symm
  rw [e]
  intro c hc
  exact mem_while hc
/-- (7) what is read is a packed text -/
theorem nxt_back {s t r : List UInt8} (h : nxt s = .ok t r) : s = text t ++ r := by
  unfold nxt at h
  rcases hl : len s with c | ⟨n, q⟩
  · rw [hl] at h; cases h
  · rw [hl] at h
    simp only at h
    unfold len at hl
    simp only at hl
    split at hl
    · cases hl
    · rename_i hk
      split at hl
      · cases hl
      · rename_i hx
        injection hl with hl
        injection hl with e1 e2
        split at h
        · cases h
        · rename_i hq
          split at h
          · cases h
          · rename_i hc
            injection h with e3 e4
            have hkl := kd_le' s
            have hk' : kd s < s.length := by omega
            have hg : s[kd s] = 58 := by
              apply Classical.byContradiction
              intro e
              apply hx
              refine .inl ?_
              rw [List.getD_eq_getElem?_getD, List.getElem?_eq_getElem hk']
              exact e
            have hqn : n < q.length := by omega
            have hg2 : q[n] = 44 := by
              apply Classical.byContradiction
              intro e
              apply hc
              rw [List.getD_eq_getElem?_getD, List.getElem?_eq_getElem hqn]
              exact e
            have ht : t.length = n := by rw [← e3]; simp; omega
            have hdec : Lib.decDigits n = s.take (kd s) := by
              rw [← e1]
              refine dec_dval _ (kd_take s) (fun e => ?_) (fun h1 e => ?_)
              · have := congrArg List.length e
                rw [List.length_take] at this
                simp only [List.length_nil] at this
                exact hx (.inr (.inl (by omega)))
              · rw [List.length_take] at h1
                refine hx (.inr (.inr ⟨by omega, ?_⟩))
                rw [List.getD_eq_getElem?_getD, List.getElem?_take, if_pos (by omega), ← List.getD_eq_getElem?_getD] at e
                exact e
            unfold text
            rw [ht, hdec, ← e3, ← e4]
            have hq2 : q = q.take n ++ 44 :: q.drop (n + 1) := by
              rw [← hg2, ← List.drop_eq_getElem_cons hqn, List.take_append_drop]
            have hs2 : s = s.take (kd s) ++ 58 :: q := by
              rw [← e2, ← hg, ← List.drop_eq_getElem_cons hk', List.take_append_drop]
            conv => lhs; rw [hs2, hq2]
            simp
/-- (8) -/
theorem lst_back : ∀ (n : Nat) (s : List UInt8), s.length ≤ n → ∀ l, lst s = some l → s = l.flatMap text := by
  intro n
  induction n with
  | zero =>
    intro s hs l h
    obtain rfl : s = [] := List.eq_nil_of_length_eq_zero (by omega)
    rw [lst] at h
    simp at h
    subst h; rfl
  | succ n ih =>
    intro s hs l h
    by_cases h0 : s = []
    · subst h0
      rw [lst] at h
      simp at h
      subst h; rfl
    · rcases hn : nxt s with c | ⟨t, q⟩
      · rw [lst, if_neg h0] at h
        split at h
        · cases h
        · rename_i h2; rw [hn] at h2; cases h2
      · rw [lst_cons h0 hn] at h
        have hq := nxt_lt hn
        cases hl : lst q with
        | none => rw [hl] at h; cases h
        | some m =>
          rw [hl] at h
          injection h with h
          subst h
          rw [List.flatMap_cons, ← ih q (by omega) m hl]
          exact nxt_back hn
theorem text_bad (r : Rd) (h : r.text.2.bad = 0) : r.bad = 0 ∧ r.rest = text r.text.1 ++ r.text.2.rest := by
  obtain ⟨s, b⟩ := r
  unfold Rd.text at h ⊢
  by_cases hb : b = 0
  · subst hb
    simp only [ne_eq, not_true_eq_false, if_false] at h ⊢
    rcases hn : nxt s with c | ⟨t, q⟩
    · rw [hn] at h
      simp only at h
      subst h
      exfalso
      unfold nxt at hn
      split at hn
      · rename_i e he
        injection hn with hn
        subst hn
        unfold len at he
        simp only at he
        split at he
        · injection he with he; omega
        · split at he
          · injection he with he; omega
          · cases he
      · split at hn
        · injection hn with hn; omega
        · split at hn
          · injection hn with hn; omega
          · cases hn
    · exact ⟨by simp, nxt_back hn⟩
  · simp only [ne_eq, hb, not_false_eq_true, if_true] at h
theorem list_bad (r : Rd) (h : r.list.2.bad = 0) : r.bad = 0 ∧ r.rest = list r.list.1 ++ r.list.2.rest := by
  unfold Rd.list at h ⊢
  cases hl : lst r.text.1 with
  | none => rw [hl] at h; simp at h
  | some l =>
    rw [hl] at h
    simp only at h ⊢
    obtain ⟨h1, h2⟩ := text_bad r h
    refine ⟨h1, ?_⟩
    rw [h2]
    unfold list
    rw [← lst_back _ _ (Nat.le_refl _) l hl]
theorem fin_zero {r : Rd} (h : r.fin = 0) : r.bad = 0 ∧ r.rest = [] := by
  unfold Rd.fin at h
  split at h
  · cases h
  · rename_i hx
    refine ⟨h, ?_⟩
    apply Classical.byContradiction
    intro e
    exact hx ⟨h, e⟩
/-- (11) what is read is laid as the same bytes -/
theorem all_same {α : Type} {takes : Rd → α × Rd} {lays : α → List UInt8} (hb : ∀ s, (takes ⟨s, 0⟩).2.fin = 0 → s = lays (takes ⟨s, 0⟩).1) {data : List UInt8} {l : List α} (h : all takes data = (l, 0)) : data = list (l.map lays) := by
  unfold all at h
  simp only at h
  split at h
  · rename_i hf
    injection h with h1 h2
    exact absurd h2 hf
  · rename_i hf
    obtain ⟨f1, f2⟩ := fin_zero (Classical.byContradiction hf)
    obtain ⟨_, e⟩ := list_bad ⟨data, 0⟩ f1
    have he : ∀ (ts : List (List UInt8)) (m : List α), each takes ts = some m → ts = m.map lays := by
      intro ts
      induction ts with
      | nil => intro m hm; rw [each] at hm; injection hm with hm; subst hm; rfl
      | cons t ts ih =>
        intro m hm
        rw [each] at hm
        split at hm
        · cases hm
        · rename_i hft
          cases hts : each takes ts with
          | none => rw [hts] at hm; cases hm
          | some m' =>
            rw [hts] at hm
            injection hm with hm
            subst hm
            rw [List.map_cons, ← ih m' hts, ← hb t (Classical.byContradiction hft)]
    split at h
    · injection h with h1 h2; omega
    · rename_i a ha
      injection h with h1 h2
      subst h1
      rw [← he _ _ ha]
      rw [f2, List.append_nil] at e
      exact e
end Go.Proofs.YtcpkhaebcmgehaaGreatDoor.Pk
/- The row's last step, where the call left new memory alone (the lemma 'post_of_below' is the kit's own, which its page gives for copying). -/
namespace Go.Proofs.YtcpkhaebcmgehaaGreatDoor
open Go.RowKit Go.WideShapes Go.ChangeShapes
section
variable {H : Type} {enc : TypeId × Value → H} {P : Program}
theorem post_of_below {f : Func} {s : ChangeSpec} {apart fresh handsOn again : Bool} {W W' : World} {args : Array Value} {v : Value} {ds gs : List (DataW H)} {before pa pv : List MemPlace}
    (hW : DataW.Whole enc P f.params.toList s.vars apart W args.toList ds gs before)
    (hres : ∀ (b : Nat) (sp : Nat → Bool) (hd : Bool), DataW.TrodAll enc P W' b sp hd f.resultTypes.toList (v.resultList f.resultTypes.size) (s.fn H (ds ++ gs)).results [])
    (hargs : ∀ sp : Nat → Bool, (∀ p ∈ before, sp p.block = true) → DataW.TrodAll enc P W' 0 sp true f.params.toList args.toList (s.fn H (ds ++ gs)).args pa)
    (hvars : ∀ sp : Nat → Bool, (∀ p ∈ before, sp p.block = true) → DataW.TrodVars enc P W' sp s.vars (s.fn H (ds ++ gs)).vars pv)
    (hps : before = pa ++ pv) (hb : Below W.heap.size W W')
    (hok : ∀ (j : Nat) (t : TypeId) (r : Value), f.resultTypes[j]? = some t → (v.resultList f.resultTypes.size)[j]? = some r → Value.okWide P W' .any 0 t r) :
    s.post enc P f apart fresh handsOn again W args v W' := by
  have hlt : ∀ p ∈ before, p.block < W.heap.size := fun p hp => hW.lt p hp
  have hold : ∀ p ∈ before, (fun b => decide (b < W.heap.size)) p.block = true := fun p hp => by simpa using hlt p hp
  refine ⟨ds, gs, before, [], pa, pv, hW, hres _ _ _, hargs _ hold, hvars _ hold, World.keptBut_mono (fun p hp => ⟨hp, ?_⟩) (hb.frame (· ∈ before)), fun _ => ?_⟩
  · rw [hps, List.mem_append] at hp
    exact Or.inr hp
  · obtain ⟨_, _, _, _, _, hz, hn⟩ := hW
    refine ⟨hok, _, _, ([] ++ pa) ++ pv, ⟨[] ++ pa, pv, trodAll_append (hargs _ (fun _ _ => rfl)) (hres _ _ _), hvars _ (fun _ _ => rfl), rfl, ?_, ?_⟩, ?_⟩
    · intro b off hp
      have hin : MemPlace.cell b off ∈ before := by rw [hps]; simpa using hp
      rw [hb.frozen (hlt _ hin)]
      exact hz b off hin
    · intro ha
      have := hn ha
      rw [hps] at this
      simpa using this
    · intro p hp _
      rw [hps]
      simpa using hp
end
end Go.Proofs.YtcpkhaebcmgehaaGreatDoor
/- Slices of structs opened to cells; arguments read afterwards as they read before (the lemma 'open_slice_fields' is the kit's own, which its page gives for copying). -/
namespace Go.Proofs.YtcpkhaebcmgehaaGreatDoor
open Go.ChangeShapes Go.WideShapes Go.Deep Go.RowKit Go.ChangeMaps
set_option linter.unusedVariables false
set_option maxRecDepth 100000
section
variable {H : Type} {enc : TypeId × Value → H} {P : Program} {w : World} {base : Nat} {spare : Nat → Bool} {held : Bool}
theorem open_slice_fields {t e : TypeId} {fs : Array Field} {fuel : Nat} {cs : List Value} {x : DataW H × List MemPlace} (ht : P.underlying t = some (.slice e)) (he : P.underlying e = some (.struct fs))
    (hone : oneCellFields P fs = true) (hC : P.cellsOf e = fs.size) (h : DataW.trod enc P w base spare held fuel t cs = some x) :
    (cs = [.slice none 0 0] ∧ x = (.nil, [])) ∨
    ∃ (a : Addr) (len cap m : Nat) (D : Nat → DataW H) (Pl : Nat → List MemPlace), cs = [.slice (some a) len cap] ∧ base ≤ a.block ∧ len ≤ cap ∧ cap ≤ maxLen ∧ m = (if spare a.block then cap else len) ∧
      x = (.slice ((List.range len).map D) ((List.range (m - len)).map fun j => D (len + j)), MemPlace.row a (m * fs.size) ++ (List.range m).flatMap Pl) ∧
      ∀ i, i < m → ∃ (ys : List (DataW H × List MemPlace)) (n : Nat), D i = .agg (ys.map (·.1)) ∧ Pl i = ys.flatMap (·.2) ∧ ys.length = fs.size ∧
        ∀ (j : Nat) (f : Field), fs[j]? = some f → ∃ (v : Value) (y : DataW H × List MemPlace), w.cell? (a.add (i * fs.size + j)) = some v ∧ ys[j]? = some y ∧ DataW.trod enc P w base spare held n f.type [v] = some y := by
  rcases open_slice ht h with h0 | ⟨a, len, cap, m, n, D, Pl, hcs, hb, hl, hm, hmm, hx, hi⟩
  · exact .inl h0
  · refine .inr ⟨a, len, cap, m, D, Pl, hcs, hb, hl, hm, hmm, by rw [hC] at hx; exact hx, fun i him => ?_⟩
    obtain ⟨cs', hc, ht'⟩ := hi i him
    rw [hC] at hc
    obtain ⟨ys, n', hn', hy, hlen, hyl, hf⟩ := DataW.trod_struct he ht'
    obtain ⟨_, hcl, hat⟩ := World.cells?_some hc
    simp only [Prod.mk.injEq] at hy
    refine ⟨ys, n', hy.1, hy.2, hyl, fun j f hj => ?_⟩
    obtain ⟨ho, hk⟩ := hone_of hone j f hj
    have hjl : j < fs.size := (Array.getElem?_eq_some_iff.1 hj).1
    have hcell := hat j hjl
    have hv : cs'[j]? = some (cs'[j]'(by omega)) := List.getElem?_eq_getElem (by omega)
    have h1 := hf j f hj
    rw [ho, hk] at h1
    have hone' : (cs'.drop j).take 1 = [cs'[j]'(by omega)] := by
      rw [List.drop_eq_getElem_cons (by omega)]
      rfl
    rw [hone'] at h1
    have hys : ys[j]? = some (ys[j]'(by omega)) := List.getElem?_eq_getElem (by omega)
    refine ⟨_, _, ?_, hys, h1.trans hys⟩
    rw [← Go.Deep.add_add, hcell, hv]
end
theorem list_of {α : Type} {Q : Nat → α → Prop} : ∀ (n : Nat), (∀ i, i < n → ∃ t, Q i t) → ∃ l : List α, l.length = n ∧ ∀ k (h : k < l.length), Q k l[k]
  | 0, _ => ⟨[], rfl, fun k h => absurd h (by simp)⟩
  | n + 1, h => by
    obtain ⟨l, hl, hq⟩ := list_of n (fun i hi => h i (by omega))
    obtain ⟨t, ht⟩ := h n (by omega)
    refine ⟨l ++ [t], by simp [hl], fun k hk => ?_⟩
    rcases Nat.lt_or_ge k l.length with h1 | h1
    · rw [List.getElem_append_left h1]; exact hq k h1
    · have : k = l.length := by simp at hk; omega
      subst this
      rw [List.getElem_append_right (Nat.le_refl _)]
      simpa [hl] using ht
theorem lt_of_cell {w : World} {a : Addr} {v : Value} (h : w.cell? a = some v) : a.block < w.heap.size := by
  unfold World.cell? at h
  rcases Nat.lt_or_ge a.block w.heap.size with h1 | h1
  · exact h1
  · rw [Array.getElem?_eq_none h1] at h; cases h
section
variable {H : Type} {enc : TypeId × Value → H} {W : World}
theorem sameAt_below {W W' : World} (hb : Below W.heap.size W W') (p : MemPlace) (h : p.block < W.heap.size) : W.sameAt W' p := by
  cases p with
  | cell b off => exact hb.cell (p := ⟨b, off, none⟩) h
  | map b => exact hb.block b h
theorem trodAll_carry {P : Program} {w w' : World} {sp : Nat → Bool} : ∀ {ts : List TypeId} {vs : List Value} {ds : List (DataW H)} {ps : List MemPlace}, DataW.TrodAll enc P w 0 sp true ts vs ds ps → (∀ p ∈ ps, w.sameAt w' p) → DataW.TrodAll enc P w' 0 sp true ts vs ds ps
  | [], [], [], _, h, _ => h
  | _ :: _, _ :: _, _ :: _, _, ⟨p, q, ⟨n, h1⟩, h2, e⟩, hs => ⟨p, q, ⟨n, DataW.trod_carry _ _ _ _ h1 (fun x hx => hs x (by rw [e]; exact List.mem_append_left _ hx))⟩, trodAll_carry h2 (fun x hx => hs x (by rw [e]; exact List.mem_append_right _ hx)), e⟩
/-- arguments read behind the call as they read before it -/
theorem args_stay {P : Program} {W W' : World} (hl : laidOutB P = true) (hm : mapsRowed P = true) (hf : ((List.range P.types.size).all fun t => match P.underlying t with | some (.slice e) => decide (0 < P.cellsOf e) | _ => true) = true)
    {ts : List TypeId} {vs : List Value} {ds : List (DataW H)} {ps : List MemPlace} (hT : ts.all (fun t => decide (t < P.types.size)) = true) (h : DataW.TrodAll enc P W 0 (fun _ => true) true ts vs ds ps) (hlt : ∀ p ∈ ps, p.block < W.heap.size) (hb : Below W.heap.size W W')
    (sp : Nat → Bool) (hs : ∀ p ∈ ps, sp p.block = true) : DataW.TrodAll enc P W' 0 sp true ts vs ds ps :=
  trodAll_carry (DataW.TrodAll.respare (kids_rows hl hm) (slices_full_of P hf) (fun t ht => of_decide_eq_true (List.all_eq_true.1 hT t ht)) h hs) (fun p hp => sameAt_below hb p (hlt p hp))
end
end Go.Proofs.YtcpkhaebcmgehaaGreatDoor
