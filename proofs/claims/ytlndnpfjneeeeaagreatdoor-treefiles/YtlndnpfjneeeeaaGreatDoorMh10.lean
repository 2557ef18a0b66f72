/- Joined by mkmerged.py: KgFn, PkRead, SortCall, PkBack. -/
import Derived.Test.YtlndnpfjneeeeaaGreatDoorMh09
import Derived.Test.YtlndnpfjneeeeaaGreatDoorMhKm
import Derived.Shelf.SlSortCmp.NoneTotal
import Derived.Sort.OwnSorted
/- KgFn, what a claim needs of it (prune.py). -/
namespace Go.Proofs.YtlndnpfjneeeeaaGreatDoor
open Go.RowKit
set_option linter.unusedVariables false
set_option maxRecDepth 100000
def fileB (p d : List UInt8) : List UInt8 := Pk.text p ++ Pk.text d
theorem textlen_le (s : ByteArray) (h : s.size ≤ 1000000000) : (bs (Pk.text (tl s))).size ≤ s.size + 21 := by
  rw [bs_size]
  have h2 : (tl s).length = s.size := (Lib.size_eq s).symm
  have h1 := dec_len (n := (tl s).length) (by omega)
  simp only [Pk.text, List.length_append, List.length_cons, List.length_nil]
  omega
theorem Strs.more {w : World} {B B' : Nat} {A : Option Addr} {l : List ByteArray} (h : Strs w B A l) (hB : B ≤ B') : Strs w B' A l := Reads.more h hB
def targetB (n c : List UInt8) (ds ss : List (List UInt8)) : List UInt8 := ((Pk.text n ++ Pk.text c) ++ Pk.list ds) ++ Pk.list ss
end Go.Proofs.YtlndnpfjneeeeaaGreatDoor
namespace Go.Proofs.YtlndnpfjneeeeaaGreatDoor
open Go.RowKit
set_option linter.unusedVariables false
set_option maxRecDepth 100000
theorem append_one {P : Program} {ops : Array Oper} {rest : List Oper} {o : Oper} {a : Act} {Q : Exit → Act → World → Prop} {wr w0 : World} (hgd : o.guard = none) (s x : Operand) (t : TypeId)
    (ho : o.op = .call { callee := .builtin .append, args := #[s, x], argTypes := #[t, t] }) (B : Nat) (e : TypeId) (z : Value) (by_ : Nat) (ht : P.underlying t = some (.slice e))
    (hi : (P.info? e).map (fun i => (i.zero, i.size, i.bytes)) = some (some z, 1, by_)) (hz : z.cells.size = 1) (hby : by_ ≤ 1000)
    (v : Value) (n : Nat) (xs : List Value) (hs : a.eval s = v) (hown : wr.ownsRow B e 1 v n xs)
    (u : Value) (hu : u.oneCell' = true) (hx : a.eval x = .slice (some ⟨wr.heap.size, 0, none⟩) 1 1) (hn : n + 1 ≤ 1000000000)
    (hB : B ≤ wr.heap.size) (hb : Below B w0 wr)
    (h : ∀ v' w', w'.ownsRow B e 1 v' (n + 1) (xs ++ [u]) → Below B w0 w' → (∀ k, k < wr.heap.size → some k ≠ v.ownBlock → w'.heap[k]? = wr.heap[k]?) → wpList P ops Q rest (a.put o.dst v') w') :
    wpList P ops Q (o :: rest) a (wr.alloc (.cells #[u] e)) := by
  obtain ⟨i0, hi0, hz0, hz1, hz2⟩ := info_parts hi
  have hmul : (n + 1) * by_ ≤ 1000000000 * 1000 := Nat.mul_le_mul hn hby
  refine wpList_append_own _ hgd s x t ho B e i0 z 1 by_ ht hi0 hz0 hz1 hz2 hz (by decide) v n xs hs (hown.alloc _) ⟨wr.heap.size, 0, none⟩ 1 1 [u] hx rfl ?_ ?_ ?_ (by omega) (by simp; omega) ?_
  · intro j y hy
    rw [Addr.add_mid, Nat.zero_add, cell_heap (heap_alloc_new wr _)]
    simpa using hy
  · intro y hy; simp at hy; subst hy; exact hu
  · unfold maxLen; omega
  · intro v' w' h1 h2 _
    refine h v' w' h1 ?_ ?_
    · exact (hb.alloc hB _).grown h2 (by simp; omega) (fun k hk => (hown.lt k hk).1)
    · intro k hk hne
      rw [h2.block k (by simp; omega) hne, Below.heap_alloc _ _ _ hk]
def Tg.b (t : Tg) : List UInt8 := targetB (tl t.n) (tl t.c) (t.ds.map tl) (t.ss.map tl)
structure Tg.Ok (t : Tg) : Prop where
  n : t.n.size ≤ 100
  c : t.c.size ≤ 2000
  dl : t.ds.length ≤ 20
  sl : t.ss.length ≤ 40
  d : ∀ x ∈ t.ds, x.size ≤ 100
  s : ∀ x ∈ t.ss, x.size ≤ 100
def TgAt (w : World) (B : Nat) (ad : Addr) (t : Tg) : Prop := ∃ Ad cd As cs, w.cell? ad = some (.string t.n) ∧ w.cell? (ad.add 1) = some (.string t.c) ∧ w.cell? (ad.add 2) = some (.slice Ad t.ds.length cd) ∧ w.cell? (ad.add 3) = some (.slice As t.ss.length cs) ∧ Strs w B Ad t.ds ∧ Strs w B As t.ss
def Tgs (w : World) (B : Nat) (A : Option Addr) (l : List Tg) : Prop := 0 < l.length → ∃ ad, A = some ad ∧ ad.block < B ∧ ∀ k (h : k < l.length), TgAt w B (ad.add (k * 4)) l[k]
theorem TgAt.keep {w w' : World} {B : Nat} {ad : Addr} {t : Tg} (hB : ad.block < B) (h : TgAt w B ad t) (hb : Below B w w') : TgAt w' B ad t := by
  obtain ⟨Ad, cd, As, cs, h0, h1, h2, h3, h4, h5⟩ := h
  have hk : ∀ j, w'.cell? (ad.add j) = w.cell? (ad.add j) := fun j => hb.cell (by rw [block_of_add]; exact hB)
  exact ⟨Ad, cd, As, cs, (hb.cell hB).trans h0, (hk 1).trans h1, (hk 2).trans h2, (hk 3).trans h3, h4.below hb, h5.below hb⟩
theorem Tgs.below {w w' : World} {B : Nat} {A : Option Addr} {l : List Tg} (h : Tgs w B A l) (hb : Below B w w') : Tgs w' B A l := fun hl => by
  obtain ⟨ad, e, h1, h2⟩ := h hl
  exact ⟨ad, e, h1, fun k hk => (h2 k hk).keep (by rw [block_of_add]; exact h1) hb⟩
theorem str_info : (Tryz.prog.info? 9).map (fun i => (i.zero, i.size, i.bytes)) = some (some (.string .empty), 1, 16) := by kernel_rfl
end Go.Proofs.YtlndnpfjneeeeaaGreatDoor
/- PkRead, what a claim needs of it (prune.py). -/
namespace Go.Proofs.YtlndnpfjneeeeaaGreatDoor
open Go.RowKit
set_option linter.unusedVariables false
set_option maxRecDepth 100000
def nxV : Pk.Nx → Value
  | .bad c => .tuple #[.string ⟨#[]⟩, .string ⟨#[]⟩, .int .i64 c]
  | .ok t r => .tuple #[.string (bs t), .string (bs r), .int .i64 0]
theorem len_bad {l : List UInt8} {c : Nat} (h : Pk.len l = .inl c) : c = 10 ∨ c = 11 := by
  unfold Pk.len at h
  simp only at h
  split at h
  · injection h with h; exact .inl h.symm
  · split at h
    · injection h with h; exact .inr h.symm
    · cases h
theorem len_good {l r : List UInt8} {n : Nat} (h : Pk.len l = .inr (n, r)) : r.length ≤ l.length ∧ n < 100000000 := by
  unfold Pk.len at h
  simp only at h
  split at h
  · cases h
  · split at h
    · cases h
    · injection h with h
      injection h with h1 h2
      subst h1 h2
      refine ⟨by simp, ?_⟩
      refine dval_lt _ (fun c hc => ?_) (by rw [List.length_take]; have := (kd_le l).2; omega)
      obtain ⟨j, hj, rfl⟩ := List.mem_iff_getElem.1 hc
      rw [List.length_take] at hj
      obtain ⟨c, h1, h2, h3⟩ := kd_dig (s := l) (j := j) (by omega)
      rw [List.getElem_take]
      have := (List.getElem?_eq_some_iff.1 h1).2
      rw [this]
      exact ⟨h2, h3⟩
set_option maxHeartbeats 4000000 in
theorem next_any (l : List UInt8) (hs : l.length ≤ 1000000000) (w : World) :
    Calls Tryz.prog 187 #[.string (bs l)] w fun e w' => e = .returned (nxV (Pk.nxt l)) ∧ Below w.heap.size w w' := by
  have LN := length_any (bs l) (by rw [bs_size]; omega)
  rw [show tl (bs l) = l from rfl] at LN
  rcases hlen : Pk.len l with c | ⟨n, r⟩
  · have hc := len_bad hlen
    have HV : Hid (nxV (Pk.nxt l) = .tuple #[.string ⟨#[]⟩, .string ⟨#[]⟩, .int .i64 c]) := Lib.hid (by unfold Pk.nxt; rw [hlen]; rfl)
    rw [hlen, show lenV (.inl c) = .tuple #[.int .i64 0, .string ⟨#[]⟩, .int .i64 c] from rfl] at LN
    have LNH := Lib.hid LN
    clear LN hlen
    rcases hc with rfl | rfl
    all_goals
      go_enter Tryz.func187, Tryz.ntmps187
      go_wp2_with (go_at_call 257; ((with_reducible refine (LNH.out _).mono ?_); rintro e w1 ⟨rfl, hb1⟩))
      go_ret3
      exact ⟨ret_val HV.out, hb1⟩
  · obtain ⟨hr, hn⟩ := len_good hlen
    rw [hlen, show lenV (.inr (n, r)) = .tuple #[.int .i64 n, .string (bs r), .int .i64 0] from rfl] at LN
    have LNH := Lib.hid LN
    clear LN
    have hrs := bs_size r
    obtain ⟨R, eR⟩ : ∃ R, R = bs r := ⟨_, rfl⟩
    have hRl : tl R = r := by rw [eR]; rfl
    rw [← eR] at LNH hrs
    have OUT : nxV (Pk.nxt l) = if r.length ≤ n then .tuple #[.string ⟨#[]⟩, .string ⟨#[]⟩, .int .i64 10] else if r.getD n 0 ≠ 44 then .tuple #[.string ⟨#[]⟩, .string ⟨#[]⟩, .int .i64 11] else .tuple #[.string (bs (r.take n)), .string (bs (r.drop (n + 1))), .int .i64 0] := by
      unfold Pk.nxt
      rw [hlen]
      simp only
      split
      · rfl
      · split <;> rfl
    by_cases h1 : r.length ≤ n
    · have HV := Lib.hid (OUT.trans (if_pos h1))
      have i1 : R.size ≤ n := by omega
      have i1' : (R.size : Int) ≤ (n : Int) := by omega
      clear OUT hlen eR hRl hrs
      go_enter Tryz.func187, Tryz.ntmps187
      go_wp2_with (go_at_call 257; ((with_reducible refine (LNH.out _).mono ?_); rintro e w1 ⟨rfl, hb1⟩))
      go_ret3
      exact ⟨ret_val HV.out, hb1⟩
    · have i1 : ¬ R.size ≤ n := by omega
      have hnR : n < R.size := by omega
      have i2 : (n : Int) < (R.size : Int) := by omega
      have i3 : (n : Int) + 1 ≤ (R.size : Int) := by omega
      have i4 : (n : Int) ≤ (R.size : Int) := by omega
      have hg : r.getD n 0 = R[n] := by rw [← hRl]; exact getD_byte hnR
      have hq : (r.getD n 0 ≠ 44) ↔ R[n].toNat ≠ 44 := by rw [hg, ne_eq, ne_eq, ← UInt8.toNat_inj]; rfl
      by_cases h2 : R[n].toNat ≠ 44
      · have HV := Lib.hid ((OUT.trans (if_neg h1)).trans (if_pos (hq.2 h2)))
        have j1 : (R[n].toNat : Int) ≠ 44 := by omega
        clear OUT hlen eR hRl hrs hg hq
        go_enter Tryz.func187, Tryz.ntmps187
        go_wp2_with (go_at_call 257; ((with_reducible refine (LNH.out _).mono ?_); rintro e w1 ⟨rfl, hb1⟩))
        go_ret3
        exact ⟨ret_val HV.out, hb1⟩
      · have hV := (OUT.trans (if_neg h1)).trans (if_neg (fun h => h2 (hq.1 h)))
        have b1 : bs (r.take n) = R.extract 0 n := by rw [← bs_of (R.extract 0 n), Lib.extract_data, show R.data.toList = r from hRl]; simp
        have b2 : bs (r.drop (n + 1)) = R.extract (n + 1) R.size := by rw [← bs_of (R.extract (n + 1) R.size), Lib.extract_to_end, show R.data.toList = r from hRl]
        rw [b1, b2] at hV
        have HV := Lib.hid hV
        have j1 : (R[n].toNat : Int) = 44 := by omega
        clear OUT hlen eR hRl hrs hg hq hV b1 b2 h2
        go_enter Tryz.func187, Tryz.ntmps187
        go_wp2_with (go_at_call 257; ((with_reducible refine (LNH.out _).mono ?_); rintro e w1 ⟨rfl, hb1⟩))
        go_quiet (fail)
        go_wp2
        go_ret3
        exact ⟨ret_val HV.out, hb1.trans (belowDN (Below.refl _ _) _)⟩
def RdAt (w : World) (b : Nat) (r : Pk.Rd) : Prop := w.heap[b]? = some (.cells #[.string (bs r.rest), .int .i64 r.bad] 236 (0, 0))
set_option maxHeartbeats 4000000 in
theorem rtext_any (b : Nat) (r : Pk.Rd) (hs : r.rest.length ≤ 1000000000) (w : World) (h : RdAt w b r) :
    Calls Tryz.prog 186 #[.pointer (some ⟨b, 0, none⟩)] w fun e w' => e = .returned (.string (bs r.text.1)) ∧ RdAt w' b r.text.2 ∧ w.grownBy w' (some b) := by
  obtain ⟨l, bad⟩ := r
  have c0 : w.cell? ⟨b, 0, none⟩ = some (.string (bs l)) := (cell_heap h 0).trans rfl
  have c1 : w.cell? ⟨b, 1, none⟩ = some (.int .i64 bad) := (cell_heap h 1).trans rfl
  by_cases hb : bad = 0
  · subst hb
    have f0 : w.frozen? ⟨b, 0, none⟩ = false := frozen_heap h 0
    have f1 : w.frozen? ⟨b, 1, none⟩ = false := frozen_heap h 1
    have NX := next_any l hs w
    rcases hn : Pk.nxt l with c | ⟨t, q⟩
    · rw [hn, show nxV (.bad c) = .tuple #[.string ⟨#[]⟩, .string ⟨#[]⟩, .int .i64 c] from rfl] at NX
      have hc : c = 10 ∨ c = 11 := by
        unfold Pk.nxt at hn
        split at hn
        · rename_i e he; injection hn with hn; subst hn; exact len_bad he
        · split at hn
          · injection hn with hn; exact .inl hn.symm
          · split at hn
            · injection hn with hn; exact .inr hn.symm
            · cases hn
      have HT : Hid (Pk.Rd.text ⟨l, 0⟩ = ([], ⟨l, c⟩)) := Lib.hid (by unfold Pk.Rd.text; simp [hn])
      have NXH := Lib.hid NX
      clear NX hn
      have hbl : b < w.heap.size := lt_heap h
      have H := Lib.hid h
      clear h
      rcases hc with rfl | rfl
      all_goals
        go_enter Tryz.func186, Tryz.ntmps186
        go_wp2_with (go_at_call 187; ((with_reducible refine (NXH.out).mono ?_); rintro e w1 ⟨rfl, hb1⟩; have d1 := (hb1.cell (p := ⟨b, 1, none⟩) hbl).trans c1; have g1 := (hb1.frozen (p := ⟨b, 1, none⟩) hbl).trans f1))
        go_ret
        refine ⟨ret_str (by rw [HT.out]; rfl), ?_, ?_⟩
        · rw [HT.out]
          exact heap_set (heap_below hb1 hbl H.out)
        · exact grown_set (grown_of_below hb1 _) (.inr rfl) _ _
    · rw [hn, show nxV (.ok t q) = .tuple #[.string (bs t), .string (bs q), .int .i64 0] from rfl] at NX
      have HT : Hid (Pk.Rd.text ⟨l, 0⟩ = (t, ⟨q, 0⟩)) := Lib.hid (by unfold Pk.Rd.text; simp [hn])
      have NXH := Lib.hid NX
      clear NX hn
      have hbl : b < w.heap.size := lt_heap h
      have H := Lib.hid h
      clear h
      go_enter Tryz.func186, Tryz.ntmps186
      go_wp2_with (go_at_call 187; ((with_reducible refine (NXH.out).mono ?_); rintro e w1 ⟨rfl, hb1⟩; have d1 := (hb1.cell (p := ⟨b, 0, none⟩) hbl).trans c0; have g1 := (hb1.frozen (p := ⟨b, 0, none⟩) hbl).trans f0))
      go_ret
      refine ⟨ret_str (by rw [HT.out]), ?_, ?_⟩
      · rw [HT.out]
        exact heap_set (heap_below hb1 hbl H.out)
      · exact grown_set (grown_of_below hb1 _) (.inr rfl) _ _
  · have n1 : ((bad : Int) != 0) = true := by simp; omega
    have HT : Hid (Pk.Rd.text ⟨l, bad⟩ = ([], ⟨l, bad⟩)) := Lib.hid (by unfold Pk.Rd.text; simp [hb])
    have H := Lib.hid h
    clear h
    go_enter Tryz.func186, Tryz.ntmps186
    go_wp2_with (fail)
    go_ret
    exact ⟨ret_str (by rw [HT.out]; rfl), by rw [HT.out]; exact H.out, grown_refl _ _⟩
end Go.Proofs.YtlndnpfjneeeeaaGreatDoor
namespace Go.Proofs.YtlndnpfjneeeeaaGreatDoor
open Go.RowKit
set_option linter.unusedVariables false
set_option maxRecDepth 100000
theorem read_any (l : List UInt8) (w : World) :
    Calls Tryz.prog 91 #[.string (bs l)] w fun e w' => e = .returned (.pointer (some ⟨w.heap.size, 0, none⟩)) ∧ RdAt w' w.heap.size ⟨l, 0⟩ ∧ Below w.heap.size w w' := by
  go_enter Tryz.func91, Tryz.ntmps91
  go_wp2_with (fail)
  go_ret
  exact ⟨rfl, heap_alloc_new w _, (Below.refl _ _).alloc (Nat.le_refl _) _⟩
theorem bs_nil : bs [] = ⟨#[]⟩ := rfl
theorem bs_ne {l : List UInt8} (h : l ≠ []) : (bs l).toList.isEmpty = false := by
  rw [Lib.toList_data]
  cases l with
  | nil => exact absurd rfl h
  | cons a l => rfl
theorem rend_any (b : Nat) (r : Pk.Rd) (w : World) (h : RdAt w b r) :
    Calls Tryz.prog 94 #[.pointer (some ⟨b, 0, none⟩)] w fun e w' => e = .returned (.int .i64 r.fin) ∧ w = w' := by
  obtain ⟨l, bad⟩ := r
  have c0 : w.cell? ⟨b, 0, none⟩ = some (.string (bs l)) := (cell_heap h 0).trans rfl
  have c1 : w.cell? ⟨b, 1, none⟩ = some (.int .i64 bad) := (cell_heap h 1).trans rfl
  clear h
  by_cases hb : bad = 0
  · subst hb
    by_cases hl : l = []
    · subst hl
      rw [bs_nil] at c0
      have HV : Hid (Pk.Rd.fin ⟨[], 0⟩ = 0) := Lib.hid (by simp [Pk.Rd.fin])
      go_enter Tryz.func94, Tryz.ntmps94
      go_wp2_with (fail)
      go_ret
      exact ⟨ret_val (by rw [HV.out]; rfl), rfl⟩
    · have HV : Hid (Pk.Rd.fin ⟨l, 0⟩ = 12) := Lib.hid (by simp [Pk.Rd.fin, hl])
      have e1 := bs_ne hl
      clear hl
      go_enter Tryz.func94, Tryz.ntmps94
      go_wp2_with (fail)
      go_ret
      exact ⟨ret_val (by rw [HV.out]; rfl), rfl⟩
  · have HV : Hid (Pk.Rd.fin ⟨l, bad⟩ = bad) := Lib.hid (by simp [Pk.Rd.fin, hb])
    have n1 : ((bad : Int) == 0) = false := by simp; omega
    clear hb
    go_enter Tryz.func94, Tryz.ntmps94
    go_wp2_with (fail)
    go_ret
    exact ⟨ret_val (by rw [HV.out]; rfl), rfl⟩
theorem lst_nil : Pk.lst [] = some [] := by rw [Pk.lst]; rfl
theorem lst_bad {l : List UInt8} {c : Nat} (h0 : l ≠ []) (h : Pk.nxt l = .bad c) : Pk.lst l = none := by
  rw [Pk.lst, if_neg h0]
  split
  · rfl
  · rename_i h2; rw [h] at h2; cases h2
theorem lst_ok {l t q : List UInt8} (h0 : l ≠ []) (h : Pk.nxt l = .ok t q) : Pk.lst l = (Pk.lst q).map (t :: ·) := by
  rw [Pk.lst, if_neg h0]
  split
  · rename_i h2; rw [h] at h2; cases h2
  · rename_i h2; rw [h] at h2; injection h2 with h3 h4; rw [h3, h4]
theorem nxt_bad {l : List UInt8} {c : Nat} (hn : Pk.nxt l = .bad c) : c = 10 ∨ c = 11 := by
  unfold Pk.nxt at hn
  split at hn
  · rename_i e he; injection hn with hn; subst hn; exact len_bad he
  · split at hn
    · injection hn with hn; exact .inl hn.symm
    · split at hn
      · injection hn with hn; exact .inr hn.symm
      · cases hn
theorem rtext_lt (r : Pk.Rd) : r.text.1.length ≤ r.rest.length := by
  unfold Pk.Rd.text
  split
  · simp
  · split
    · simp
    · rename_i t q h
      unfold Pk.nxt at h
      split at h
      · cases h
      · rename_i n r' he
        have := (len_good he).1
        split at h
        · cases h
        · split at h
          · cases h
          · injection h with h1 h2
            subst h1
            simp
            omega
def strLen : Value → Nat
  | .string s => s.size
  | _ => 0
def ListSays (b : Nat) (r : Pk.Rd) (w : World) (e : Ending) (w' : World) : Prop :=
  ∃ v, e = .returned v ∧ w'.ownsRow w.heap.size 9 1 v r.list.1.length (r.list.1.map fun t => Value.string (bs t)) ∧ RdAt w' b r.list.2 ∧ w.grownBy w' (some b)
theorem RdAt.later {w w' : World} {b : Nat} {r : Pk.Rd} (h : RdAt w b r) (k : Below w.heap.size w w') : RdAt w' b r := heap_below k (lt_heap h) h
theorem grown_below {w w1 w2 : World} {r : Option Nat} (h : w.grownBy w1 r) (k : Below w.heap.size w1 w2) : w.grownBy w2 r :=
  ⟨k.os.trans h.os, k.tape.trans h.tape, k.output.trans h.output, Nat.le_trans h.size k.size, fun b hb hr => (k.block b hb).trans (h.block b hb hr)⟩
set_option maxHeartbeats 4000000 in
theorem rlist_any (b : Nat) (r : Pk.Rd) (hs : r.rest.length ≤ 1000000000) (w : World) (h : RdAt w b r) :
    Calls Tryz.prog 93 #[.pointer (some ⟨b, 0, none⟩)] w (ListSays b r w) := by
  have RT := rtext_any b r hs w h
  have hl0 : r.text.1.length ≤ 1000000000 := Nat.le_trans (rtext_lt r) hs
  have RLS : Hid (∀ l, Pk.lst r.text.1 = some l → r.list = (l, r.text.2)) := Lib.hid (fun l h => by unfold Pk.Rd.list; rw [h])
  have RLN : Hid (Pk.lst r.text.1 = none → r.list = ([], ⟨r.text.2.rest, 11⟩)) := Lib.hid (fun h => by unfold Pk.Rd.list; rw [h])
  have hbw : b < w.heap.size := lt_heap h
  clear h
  generalize r.text.1 = s0 at *
  generalize r.text.2 = r1 at *
  have RTH := Lib.hid RT
  clear RT
  go_enter Tryz.func93, Tryz.ntmps93
  go_wp2_with (go_at_call 186; ((with_reducible refine (RTH.out).mono ?_); rintro e w1 ⟨rfl, hrd, hg1⟩))
  go_loopw [3, 4] (fun s v wx => ∃ cur pre, s = .string (bs cur) ∧ cur.length ≤ 1000000000 ∧ Pk.lst s0 = (Pk.lst cur).map (pre ++ ·) ∧ wx.ownsRow w.heap.size 9 1 v pre.length (pre.map fun t => Value.string (bs t)) ∧ pre.length + cur.length ≤ 1000000000 ∧ RdAt wx b r1 ∧ w.grownBy wx (some b)) (fun s _ _ => strLen s)
  case atStart => exact ⟨s0, [], rfl, hl0, by simp, by simpa using World.ownsRow_nil _ _ _ _, by simpa using hl0, hrd, hg1⟩
  case round =>
    obtain ⟨cur, pre, rfl, hcl, hls, hown, hpc, hrdx, hgx⟩ := hrel
    rename World => wx
    clear hrd hg1
    by_cases hc : cur = []
    · subst hc
      rw [lst_nil] at hls
      have RL := Lib.hid (RLS.out _ hls)
      clear hls hcl
      rw [bs_nil]
      obtain ⟨p, m, c', rfl⟩ := own_form hown
      go_wp2_with (fail)
      go_ret
      exact ⟨_, rfl, by rw [RL.out]; simpa using hown, by rw [RL.out]; exact hrdx, hgx⟩
    · have e1 := bs_ne hc
      have NX := next_any cur hcl wx
      have hBx := hgx.size
      rcases hn : Pk.nxt cur with c | ⟨t, q⟩
      · rw [hn, show nxV (.bad c) = .tuple #[.string ⟨#[]⟩, .string ⟨#[]⟩, .int .i64 c] from rfl] at NX
        have hcc := nxt_bad hn
        rw [lst_bad hc hn] at hls
        have RL := Lib.hid (RLN.out hls)
        have NXH := Lib.hid NX
        have HRD := Lib.hid hrdx
        have hbl : b < wx.heap.size := lt_heap hrdx
        have c1 : wx.cell? ⟨b, 1, none⟩ = some (.int .i64 r1.bad) := (cell_heap hrdx 1).trans rfl
        have f1 : wx.frozen? ⟨b, 1, none⟩ = false := frozen_heap hrdx 1
        clear NX hn hls hc hrdx
        rcases hcc with rfl | rfl
        all_goals
          go_wp2_with (go_at_call 187; ((with_reducible refine (NXH.out).mono ?_); rintro e w1 ⟨rfl, hb1⟩; have d1 := (hb1.cell (p := ⟨b, 1, none⟩) hbl).trans c1; have g1 := (hb1.frozen (p := ⟨b, 1, none⟩) hbl).trans f1))
          go_ret
          refine ⟨_, rfl, ?_, ?_, ?_⟩
          · rw [RL.out]; simpa using World.ownsRow_nil _ _ _ _
          · rw [RL.out]; exact heap_set (heap_below hb1 hbl HRD.out)
          · exact grown_set (grown_trans hgx (grown_of_below hb1 _)) (.inr rfl) _ _
      · rw [hn, show nxV (.ok t q) = .tuple #[.string (bs t), .string (bs q), .int .i64 0] from rfl] at NX
        have hql := Pk.nxt_lt hn
        rw [lst_ok hc hn] at hls
        have HLS : Hid (Pk.lst s0 = (Pk.lst q).map ((pre ++ [t]) ++ ·)) := Lib.hid (by rw [hls]; cases Pk.lst q <;> simp)
        have NXH := Lib.hid NX
        have hk9 : pre.length + 1 ≤ 1000000000 := by omega
        have PM : Hid ((pre ++ [t]).map (fun t => Value.string (bs t)) = pre.map (fun t => Value.string (bs t)) ++ [.string (bs t)]) := Lib.hid (by simp)
        clear NX hn hls hc
        go_wp2_with (first | (go_at_call 187; ((with_reducible refine (NXH.out).mono ?_); rintro e w1 ⟨rfl, hb1⟩; have hown1 := own_later hown hb1; have hB := Nat.le_trans hBx hb1.size; clear hown)) | (at_builtin; refine append_one (w0 := w1) rfl (.tmp 25) (.tmp 27) 22 rfl w.heap.size 9 _ 16 Tryz.underlying22 str_info rfl (by decide) _ pre.length _ rfl hown1 (.string (bs t)) rfl rfl hk9 hB (Below.refl _ _) ?_; intro v' w2 hown2 hb2 _))
        go_roundw
        case rel =>
          refine ⟨q, pre ++ [t], rfl, by omega, HLS.out, ?_, by simp; omega, heap_below hb2 hbw (hrdx.later hb1), grown_below (grown_trans hgx (grown_of_below hb1 _)) hb2⟩
          rw [PM.out, List.length_append]
          exact hown2
        case measure => simp only [strLen, bs_size]; omega
end Go.Proofs.YtlndnpfjneeeeaaGreatDoor
/- SortCall, what a claim needs of it (prune.py). -/
namespace Go.Proofs.YtlndnpfjneeeeaaGreatDoor
open Go.RowKit Go.Sort Go.Shelf
set_option linter.unusedVariables false
section
variable {α : Type} [Inhabited α]
theorem holds_gen (enc : α → Value) {w : World} {g : Nat} {cur : Array Value} {e : TypeId} {is : List α} (hb : w.heap[g]? = some (.cells cur e (0, 0))) (ht : cur.toList.take is.length = is.map enc) : Holds enc w g 0 is.toArray := by
  intro j hj
  have hj' : j < is.length := by simpa using hj
  refine ⟨?_, by simp [World.frozen?, hb]⟩
  have h1 : (cur.toList.take is.length)[j]? = (is.map enc)[j]? := by rw [ht]
  rw [List.getElem?_take_of_lt hj'] at h1
  simp only [World.cell?, hb, Nat.zero_add]
  simp only [Option.isSome_none, Bool.false_eq_true, if_false]
  rw [← Array.getElem?_toList, h1]
  simp [hj']
theorem heap_gen (enc : α → Value) {w : World} {g n : Nat} {os : Array Obj} {cur : Array Value} {e : TypeId} {fr : Nat × Nat} (d : Array α) (hb : w.heap[g]? = some (.cells cur e fr)) :
    (grow (putRow enc (Sort.ahead w n) g 0 d) os).heap[g]? = some (.cells (putCells enc 0 d cur) e fr) := by
  have hg : g < w.heap.size := (Array.getElem?_eq_some_iff.1 hb).1
  rw [Go.Sort.heap_grow_old _ _ (by simpa using hg)]
  simp [putRow, mapBlock, Sort.ahead, Array.getElem?_modify, hb, onCells]
theorem grown_gen (enc : α → Value) {w : World} {g n : Nat} {os : Array Obj} (d : Array α) : w.grownBy (grow (putRow enc (Sort.ahead w n) g 0 d) os) (some g) := by
  refine ⟨rfl, rfl, rfl, by simp, fun k hk hne => ?_⟩
  rw [Go.Sort.heap_grow_old _ _ (by simpa using hk)]
  have : g ≠ k := fun e => hne (by rw [e])
  simp [putRow, mapBlock, Sort.ahead, Array.getElem?_modify, this]
theorem take_gen (enc : α → Value) (cur : Array Value) (ts : List α) (h : ts.length ≤ cur.size) : (putCells enc 0 ts.toArray cur).toList.take ts.length = ts.map enc := by
  apply List.ext_getElem?
  intro j
  by_cases hj : j < ts.length
  · rw [List.getElem?_take_of_lt hj, Array.getElem?_toList]
    simp [putCells, hj, show j < cur.size by omega]
  · rw [List.getElem?_take_eq_none (by omega), List.getElem?_eq_none (by simp; omega)]
theorem owns_gen (enc : α → Value) {w : World} {base g cap n : Nat} {e : TypeId} {os : Array Obj} {cur : Array Value} {ts : List α} (hbase : base ≤ g) (hb : w.heap[g]? = some (.cells cur e (0, 0)))
    (h1 : ts.length ≤ cap) (h2 : cap ≤ maxLen) (h3 : cur.size = cap * 1) :
    (grow (putRow enc (Sort.ahead w n) g 0 ts.toArray) os).ownsRow base e 1 (.slice (some ⟨g, 0, none⟩) ts.length cap) ts.length (ts.map enc) :=
  ⟨by simp, .inr ⟨g, cap, _, rfl, hbase, heap_gen enc _ hb, h1, h2, by simp [putCells, h3], by rw [Nat.mul_one]; exact take_gen enc cur ts (by omega)⟩⟩
end
end Go.Proofs.YtlndnpfjneeeeaaGreatDoor
/- PkBack, what a claim needs of it (prune.py). -/
namespace Go.Proofs.YtlndnpfjneeeeaaGreatDoor.Pk
open Go
theorem dec_small {n : Nat} (h : n < 10) : Lib.decDigits n = [UInt8.ofNat (48 + n)] := by rw [Lib.decDigits, dif_pos h]
theorem dec_big {n : Nat} (h : ¬ n < 10) : Lib.decDigits n = Lib.decDigits (n / 10) ++ [UInt8.ofNat (48 + n % 10)] := by rw [Lib.decDigits, dif_neg h]
theorem dval_append (l : List UInt8) (c : UInt8) : dval (l ++ [c]) = 10 * dval l + (c.toNat - 48) := by unfold dval; rw [List.foldl_append]; rfl
theorem mem_while {p : UInt8 → Bool} : ∀ {l : List UInt8} {c : UInt8}, c ∈ l.takeWhile p → p c = true
  | [], c, h => by simp at h
  | a :: l, c, h => by
    rw [List.takeWhile_cons] at h
    by_cases ha : p a = true
    · rw [if_pos ha] at h
      rcases List.mem_cons.1 h with rfl | h
      · exact ha
      · exact mem_while h
    · rw [if_neg ha] at h; simp at h
theorem lst_cons {t q l : List UInt8} (h0 : l ≠ []) (h : nxt l = .ok t q) : lst l = (lst q).map (t :: ·) := by
  rw [lst, if_neg h0]
  split
  · rename_i h2; rw [h] at h2; cases h2
  · rename_i h2; rw [h] at h2; injection h2 with h3 h4; rw [h3, h4]
theorem dval_cons_lt : ∀ (l : List UInt8) (a : Nat), 0 < a → a ≤ l.foldl (fun n c => 10 * n + (c.toNat - 48)) a
  | [], a, _ => Nat.le_refl _
  | c :: l, a, h => Nat.le_trans (by omega) (dval_cons_lt l (10 * a + (c.toNat - 48)) (by omega))
theorem dig_of {c : UInt8} (h : isDig c = true) : ∃ d, d < 10 ∧ c = UInt8.ofNat (48 + d) ∧ c.toNat = 48 + d := by
  simp only [isDig, Bool.and_eq_true, decide_eq_true_eq] at h
  refine ⟨c.toNat - 48, by omega, ?_, by omega⟩
  apply UInt8.toNat_inj.1
  rw [UInt8.toNat_ofNat_of_lt' (by show 48 + (c.toNat - 48) < 256; omega)]
  omega
theorem dec_dval (l : List UInt8) : (∀ c ∈ l, isDig c = true) → l ≠ [] → (1 < l.length → l.getD 0 0 ≠ 48) → Lib.decDigits (dval l) = l := by
  induction h : l.length using Nat.strongRecOn generalizing l with
  | _ n ih =>
    intro hd h0 hz
    rcases List.eq_nil_or_concat l with rfl | ⟨m, c, rfl⟩
    · exact absurd rfl h0
    · rw [List.concat_eq_append] at *
      obtain ⟨d, hd10, hc, hcn⟩ := dig_of (hd c (by simp))
      rw [dval_append, hcn]
      by_cases hm : m = []
      · subst hm
        rw [show 10 * dval [] + (48 + d - 48) = d by simp [dval], dec_small hd10, hc]
        rfl
      · have hml : 0 < m.length := List.length_pos_iff.2 hm
        have hg : (m ++ [c]).getD 0 0 = m.getD 0 0 := by
          rw [List.getD_eq_getElem?_getD, List.getElem?_append_left hml, ← List.getD_eq_getElem?_getD]
        have hz' := hz (by simp at h; omega)
        rw [hg] at hz'
        have h1 := ih m.length (by simp at h; omega) m rfl (fun x hx => hd x (by simp [hx])) hm (fun _ => hz')
        have hpos : 0 < dval m := by
          cases m with
          | nil => exact absurd rfl hm
          | cons a m =>
            obtain ⟨e, he10, hae, haen⟩ := dig_of (hd a (by simp))
            have : a ≠ 48 := by simpa using hz'
            have he : e ≠ 0 := fun h => this (by rw [hae, h]; rfl)
            unfold dval
            rw [List.foldl_cons, haen]
            exact Nat.lt_of_lt_of_le (by omega) (dval_cons_lt m _ (by omega))
        rw [dec_big (by omega), show (10 * dval m + (48 + d - 48)) / 10 = dval m by omega, show (10 * dval m + (48 + d - 48)) % 10 = d by omega, h1, hc]
theorem kd_le' (s : List UInt8) : kd s ≤ s.length := by
  have := (List.takeWhile_prefix (p := isDig) (l := s.take 7)).length_le
  unfold kd
  simp at this ⊢
  omega
theorem kd_take (s : List UInt8) : ∀ c ∈ s.take (kd s), isDig c = true := by
  have hp := List.takeWhile_prefix (p := isDig) (l := s.take 7)
  have e : s.take (kd s) = (s.take 7).takeWhile isDig := by
    have h7 : kd s ≤ 7 := by
      have := hp.length_le
      unfold kd
      simp at this ⊢
      omega
    have h1 : (s.take 7).take (kd s) = s.take (kd s) := by rw [List.take_take, Nat.min_eq_left h7]
    rw [← h1]
    exact (List.prefix_iff_eq_take.1 hp).symm
  rw [e]
  intro c hc
  exact mem_while hc
theorem nxt_back {s t r : List UInt8} (h : nxt s = .ok t r) : s = text t ++ r := by
  unfold nxt at h
  rcases hl : len s with c | ⟨n, q⟩
  · rw [hl] at h; cases h
  · rw [hl] at h
    simp only at h
    unfold len at hl
    simp only at hl
    split at hl
    · cases hl
    · rename_i hk
      split at hl
      · cases hl
      · rename_i hx
        injection hl with hl
        injection hl with e1 e2
        split at h
        · cases h
        · rename_i hq
          split at h
          · cases h
          · rename_i hc
            injection h with e3 e4
            have hkl := kd_le' s
            have hk' : kd s < s.length := by omega
            have hg : s[kd s] = 58 := by
              apply Classical.byContradiction
              intro e
              apply hx
              refine .inl ?_
              rw [List.getD_eq_getElem?_getD, List.getElem?_eq_getElem hk']
              exact e
            have hqn : n < q.length := by omega
            have hg2 : q[n] = 44 := by
              apply Classical.byContradiction
              intro e
              apply hc
              rw [List.getD_eq_getElem?_getD, List.getElem?_eq_getElem hqn]
              exact e
            have ht : t.length = n := by rw [← e3]; simp; omega
            have hdec : Lib.decDigits n = s.take (kd s) := by
              rw [← e1]
              refine dec_dval _ (kd_take s) (fun e => ?_) (fun h1 e => ?_)
              · have := congrArg List.length e
                rw [List.length_take] at this
                simp only [List.length_nil] at this
                exact hx (.inr (.inl (by omega)))
              · rw [List.length_take] at h1
                refine hx (.inr (.inr ⟨by omega, ?_⟩))
                rw [List.getD_eq_getElem?_getD, List.getElem?_take, if_pos (by omega), ← List.getD_eq_getElem?_getD] at e
                exact e
            unfold text
            rw [ht, hdec, ← e3, ← e4]
            have hq2 : q = q.take n ++ 44 :: q.drop (n + 1) := by
              rw [← hg2, ← List.drop_eq_getElem_cons hqn, List.take_append_drop]
            have hs2 : s = s.take (kd s) ++ 58 :: q := by
              rw [← e2, ← hg, ← List.drop_eq_getElem_cons hk', List.take_append_drop]
            conv => lhs; rw [hs2, hq2]
            simp
theorem lst_back : ∀ (n : Nat) (s : List UInt8), s.length ≤ n → ∀ l, lst s = some l → s = l.flatMap text := by
  intro n
  induction n with
  | zero =>
    intro s hs l h
    obtain rfl : s = [] := List.eq_nil_of_length_eq_zero (by omega)
    rw [lst] at h
    simp at h
    subst h; rfl
  | succ n ih =>
    intro s hs l h
    by_cases h0 : s = []
    · subst h0
      rw [lst] at h
      simp at h
      subst h; rfl
    · rcases hn : nxt s with c | ⟨t, q⟩
      · rw [lst, if_neg h0] at h
        split at h
        · cases h
        · rename_i h2; rw [hn] at h2; cases h2
      · rw [lst_cons h0 hn] at h
        have hq := nxt_lt hn
        cases hl : lst q with
        | none => rw [hl] at h; cases h
        | some m =>
          rw [hl] at h
          injection h with h
          subst h
          rw [List.flatMap_cons, ← ih q (by omega) m hl]
          exact nxt_back hn
theorem text_bad (r : Rd) (h : r.text.2.bad = 0) : r.bad = 0 ∧ r.rest = text r.text.1 ++ r.text.2.rest := by
  obtain ⟨s, b⟩ := r
  unfold Rd.text at h ⊢
  by_cases hb : b = 0
  · subst hb
    simp only [ne_eq, not_true_eq_false, if_false] at h ⊢
    rcases hn : nxt s with c | ⟨t, q⟩
    · rw [hn] at h
      simp only at h
      subst h
      exfalso
      unfold nxt at hn
      split at hn
      · rename_i e he
        injection hn with hn
        subst hn
        unfold len at he
        simp only at he
        split at he
        · injection he with he; omega
        · split at he
          · injection he with he; omega
          · cases he
      · split at hn
        · injection hn with hn; omega
        · split at hn
          · injection hn with hn; omega
          · cases hn
    · exact ⟨by simp, nxt_back hn⟩
  · simp only [ne_eq, hb, not_false_eq_true, if_true] at h
theorem list_bad (r : Rd) (h : r.list.2.bad = 0) : r.bad = 0 ∧ r.rest = list r.list.1 ++ r.list.2.rest := by
  unfold Rd.list at h ⊢
  cases hl : lst r.text.1 with
  | none => rw [hl] at h; simp at h
  | some l =>
    rw [hl] at h
    simp only at h ⊢
    obtain ⟨h1, h2⟩ := text_bad r h
    refine ⟨h1, ?_⟩
    rw [h2]
    unfold list
    rw [← lst_back _ _ (Nat.le_refl _) l hl]
theorem fin_zero {r : Rd} (h : r.fin = 0) : r.bad = 0 ∧ r.rest = [] := by
  unfold Rd.fin at h
  split at h
  · cases h
  · rename_i hx
    refine ⟨h, ?_⟩
    apply Classical.byContradiction
    intro e
    exact hx ⟨h, e⟩
end Go.Proofs.YtlndnpfjneeeeaaGreatDoor.Pk
