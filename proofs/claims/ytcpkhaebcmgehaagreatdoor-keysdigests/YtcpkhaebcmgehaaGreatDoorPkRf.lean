/- The contract of the function that reads one file. -/
import Derived.Test.YtcpkhaebcmgehaaGreatDoorPkRead
import Derived.Test.YtcpkhaebcmgehaaGreatDoorKgFiles
namespace Go.Proofs.YtcpkhaebcmgehaaGreatDoor
open Go.RowKit
set_option linter.unusedVariables false
set_option maxRecDepth 100000
/-- one file off a reader -/
def takesF (r : Pk.Rd) : (List UInt8 × List UInt8) × Pk.Rd := ((r.text.1, r.text.2.text.1), r.text.2.text.2)
theorem rtext_rest (r : Pk.Rd) : r.text.2.rest.length ≤ r.rest.length := by
  unfold Pk.Rd.text
  split
  · simp
  · split
    · simp
    · rename_i t q h
      exact Nat.le_of_lt (Pk.nxt_lt h)
theorem RdAt.grown {w w' : World} {b : Nat} {r : Pk.Rd} (h : RdAt w b r) {g : Nat} (k : w.grownBy w' (some g)) (hne : b ≠ g) : RdAt w' b r := (k.block b (lt_heap h) (fun e => hne (Option.some.inj e))).trans h
set_option maxHeartbeats 4000000 in
theorem takeF_any (b : Nat) (r : Pk.Rd) (hs : r.rest.length ≤ 1000000000) (w : World) (h : RdAt w b r) :
    Calls Tryz.prog 83 #[.pointer (some ⟨b, 0, none⟩)] w fun e w' => e = .returned (.agg #[.string (bs (takesF r).1.1), .string (bs (takesF r).1.2)]) ∧ RdAt w' b (takesF r).2 ∧ w.grownBy w' (some b) := by
  have hbw : b < w.heap.size := lt_heap h
  have TF : Hid (takesF r = ((r.text.1, r.text.2.text.1), r.text.2.text.2)) := Lib.hid rfl
  have hs1 : r.text.2.rest.length ≤ 1000000000 := Nat.le_trans (rtext_rest r) hs
  have R1 := Lib.hid (fun W hW => rtext_any b r hs W hW)
  have R2 := Lib.hid (fun W hW => rtext_any b r.text.2 hs1 W hW)
  generalize r.text.2 = r1 at *
  generalize r.text.1 = p at *
  generalize r1.text.1 = d at *
  generalize r1.text.2 = r2 at *
  have H := Lib.hid h
  clear h
  go_enter Tryz.func83, Tryz.ntmps83
  go_wp2_with (fail)
  obtain ⟨W1, eW⟩ : ∃ W1, W1 = (w.alloc (.cells #[.string ⟨#[]⟩, .string ⟨#[]⟩] 71)).alloc (.cells #[.string ⟨#[]⟩, .string ⟨#[]⟩] 71) := ⟨_, rfl⟩
  have hb0 : Below w.heap.size w W1 := by rw [eW]; exact ((Below.refl _ _).alloc (Nat.le_refl _) _).alloc (by simp) _
  have q0 : W1.heap[w.heap.size]? = some (.cells #[.string ⟨#[]⟩, .string ⟨#[]⟩] 71 (0, 0)) := by rw [eW]; exact heap_alloc_lt (heap_alloc_new w _)
  have q1 : W1.heap[w.heap.size + 1]? = some (.cells #[.string ⟨#[]⟩, .string ⟨#[]⟩] 71 (0, 0)) := by
    rw [eW]
    have := heap_alloc_new (w.alloc (.cells #[.string ⟨#[]⟩, .string ⟨#[]⟩] 71)) (.cells #[.string ⟨#[]⟩, .string ⟨#[]⟩] 71)
    simpa using this
  rw [← eW]
  clear eW
  refine (R1.out _ (H.out.later hb0)).mono ?_
  rintro e w2 ⟨rfl, hr2, hg2⟩
  have z1 : W1.heap.size > w.heap.size + 1 := lt_heap q1
  have q0' := (hg2.block _ (lt_heap q0) (fun e => by have := Option.some.inj e; omega)).trans q0
  have q1' := (hg2.block _ (lt_heap q1) (fun e => by have := Option.some.inj e; omega)).trans q1
  have c10 : w2.cell? ⟨w.heap.size + 1, 0, none⟩ = some (.string ⟨#[]⟩) := (cell_heap q1' 0).trans rfl
  have c11 : w2.cell? ⟨w.heap.size + 1, 1, none⟩ = some (.string ⟨#[]⟩) := (cell_heap q1' 1).trans rfl
  have f10 : w2.frozen? ⟨w.heap.size + 1, 0, none⟩ = false := frozen_heap q1' 0
  go_wp2_with (fail)
  have hr2' : RdAt (w2.setCell ⟨w.heap.size + 1, 0, none⟩ (.string (bs p))) b r1 := (heap_set_ne (show w.heap.size + 1 ≠ b by omega)).trans hr2
  have q1w := heap_set (off := 0) (v := .string (bs p)) q1'
  have q0w : (w2.setCell ⟨w.heap.size + 1, 0, none⟩ (.string (bs p))).heap[w.heap.size]? = _ := (heap_set_ne (show w.heap.size + 1 ≠ w.heap.size by omega)).trans q0'
  have hgw : w.grownBy (w2.setCell ⟨w.heap.size + 1, 0, none⟩ (.string (bs p))) (some b) := grown_set (grown_trans (grown_of_below hb0 _) hg2) (.inl (by simp)) _ _
  clear q0 q1 q0' q1' c10 c11 f10
  generalize w2.setCell ⟨w.heap.size + 1, 0, none⟩ (.string (bs p)) = W2 at *
  refine (R2.out _ hr2').mono ?_
  rintro e w3 ⟨rfl, hr3, hg3⟩
  have q0' := (hg3.block _ (lt_heap q0w) (fun e => by have := Option.some.inj e; omega)).trans q0w
  have q1' := (hg3.block _ (lt_heap q1w) (fun e => by have := Option.some.inj e; omega)).trans q1w
  have c10 : w3.cell? ⟨w.heap.size + 1, 0, none⟩ = some (.string (bs p)) := (cell_heap q1' 0).trans rfl
  have c11 : w3.cell? ⟨w.heap.size + 1, 1, none⟩ = some (.string ⟨#[]⟩) := (cell_heap q1' 1).trans rfl
  have f11 : w3.frozen? ⟨w.heap.size + 1, 1, none⟩ = false := frozen_heap q1' 1
  have c00 : w3.cell? ⟨w.heap.size, 0, none⟩ = some (.string ⟨#[]⟩) := (cell_heap q0' 0).trans rfl
  have c01 : w3.cell? ⟨w.heap.size, 1, none⟩ = some (.string ⟨#[]⟩) := (cell_heap q0' 1).trans rfl
  have f00 : w3.frozen? ⟨w.heap.size, 0, none⟩ = false := frozen_heap q0' 0
  have f01 : w3.frozen? ⟨w.heap.size, 1, none⟩ = false := frozen_heap q0' 1
  have hgz := grown_trans hgw hg3
  clear q0w q1w hgw hg3 hg2 hr2 hr2' q0' q1'
  go_wp2_with (fail)
  refine bodyPost_ret (v := .agg #[.string (bs p), .string (bs d)]) (by simp [results, Tryz.results83, go_sem, c00, c01]) rfl ⟨by rw [TF.out], ?_, ?_⟩
  · rw [TF.out]
    exact (heap_set_ne (by omega)).trans ((heap_set_ne (by omega)).trans ((heap_set_ne (by omega)).trans hr3))
  · exact grown_set (grown_set (grown_set hgz (.inl (by simp)) _ _) (.inl (by simp)) _ _) (.inl (by simp)) _ _
end Go.Proofs.YtcpkhaebcmgehaaGreatDoor
/- The contract of keys.ReadFiles. -/
namespace Go.Proofs.YtcpkhaebcmgehaaGreatDoor
open Go.RowKit
set_option linter.unusedVariables false
set_option maxRecDepth 100000
/-- one element of several cells behind a row of the call's own -/
theorem append_el {P : Program} {ops : Array Oper} {rest : List Oper} {o : Oper} {a : Act} {Q : Exit → Act → World → Prop} {wr w0 : World} (hgd : o.guard = none) (s x : Operand) (t : TypeId)
    (ho : o.op = .call { callee := .builtin .append, args := #[s, x], argTypes := #[t, t] }) (B : Nat) (e : TypeId) (z : Value) (size by_ : Nat) (ht : P.underlying t = some (.slice e))
    (hi : (P.info? e).map (fun i => (i.zero, i.size, i.bytes)) = some (some z, size, by_)) (hz : z.cells.size = size) (hsz : 0 < size) (hby : by_ ≤ 1000)
    (v : Value) (n : Nat) (xs : List Value) (hs : a.eval s = v) (hown : wr.ownsRow B e size v n xs)
    (us : List Value) (cs : Array Value) (hcs : cs = us.toArray) (hul : us.length = size) (hu : ∀ u ∈ us, u.oneCell' = true) (g : Nat) (hg : g = wr.heap.size) (hx : a.eval x = .slice (some ⟨g, 0, none⟩) 1 1) (hn : n + 1 ≤ 1000000000)
    (hB : B ≤ wr.heap.size) (hb : Below B w0 wr)
    (h : ∀ v' w', w'.ownsRow B e size v' (n + 1) (xs ++ us) → Below B w0 w' → (∀ k, k < wr.heap.size → some k ≠ v.ownBlock → w'.heap[k]? = wr.heap[k]?) → wpList P ops Q rest (a.put o.dst v') w') :
    wpList P ops Q (o :: rest) a (wr.alloc (.cells cs e)) := by
  obtain ⟨i0, hi0, hz0, hz1, hz2⟩ := info_parts hi
  subst hcs hg
  have hmul : (n + 1) * by_ ≤ 1000000000 * 1000 := Nat.mul_le_mul hn hby
  refine wpList_append_own _ hgd s x t ho B e i0 z size by_ ht hi0 hz0 hz1 hz2 hz hsz v n xs hs (hown.alloc _) ⟨wr.heap.size, 0, none⟩ 1 1 us hx (by omega) ?_ hu ?_ (by omega) (by simp; omega) ?_
  · intro j y hy
    rw [Addr.add_mid, Nat.zero_add, cell_heap (heap_alloc_new wr _)]
    simpa using hy
  · unfold maxLen; omega
  · intro v' w' h1 h2 _
    refine h v' w' h1 ?_ ?_
    · exact (hb.alloc hB _).grown h2 (by simp; omega) (fun k hk => (hown.lt k hk).1)
    · intro k hk hne
      rw [h2.block k (by simp; omega) hne, Below.heap_alloc _ _ _ hk]
theorem file_info : (Tryz.prog.info? 71).map (fun i => (i.zero, i.size, i.bytes)) = some (some (.agg #[.string .empty, .string .empty]), 2, 32) := by kernel_rfl
/-- files' cells -/
def filesC (l : List (List UInt8 × List UInt8)) : List Value := l.flatMap fun f => [.string (bs f.1), .string (bs f.2)]
/-- what read says of files -/
def ReadFSays (l : List UInt8) (w : World) (e : Ending) (w' : World) : Prop :=
  ∃ v, e = .returned (.tuple #[v, .int .i64 (Pk.all takesF l).2]) ∧ w'.ownsRow w.heap.size 71 2 v (Pk.all takesF l).1.length (filesC (Pk.all takesF l).1) ∧ Below w.heap.size w w'
theorem all_bad {α : Type} {takes : Pk.Rd → α × Pk.Rd} {l : List UInt8} (h : (Pk.Rd.list ⟨l, 0⟩).2.fin ≠ 0) : Pk.all takes l = ([], (Pk.Rd.list ⟨l, 0⟩).2.fin) := by
  unfold Pk.all; simp [h]
theorem all_ok {α : Type} {takes : Pk.Rd → α × Pk.Rd} {l : List UInt8} (h : (Pk.Rd.list ⟨l, 0⟩).2.fin = 0) : Pk.all takes l = match Pk.each takes (Pk.Rd.list ⟨l, 0⟩).1 with | none => ([], 11) | some a => (a, 0) := by
  unfold Pk.all; simp [h]; cases Pk.each takes (Pk.Rd.list ⟨l, 0⟩).1 <;> rfl
theorem each_drop {α : Type} {takes : Pk.Rd → α × Pk.Rd} {l : List (List UInt8)} {k : Nat} (h : k < l.length) : Pk.each takes (l.drop k) = if (takes ⟨l[k], 0⟩).2.fin ≠ 0 then none else (Pk.each takes (l.drop (k + 1))).map ((takes ⟨l[k], 0⟩).1 :: ·) := by
  rw [List.drop_eq_getElem_cons h, Pk.each]
theorem lst_lens : ∀ (n : Nat) (s : List UInt8), s.length ≤ n → ∀ l, Pk.lst s = some l → (∀ t ∈ l, t.length ≤ s.length) ∧ l.length ≤ s.length := by
  intro n
  induction n with
  | zero =>
    intro s hs l h
    obtain rfl : s = [] := List.eq_nil_of_length_eq_zero (by omega)
    rw [lst_nil] at h
    injection h with h; subst h
    exact ⟨fun t ht => by simp at ht, by simp⟩
  | succ n ih =>
    intro s hs l h
    by_cases h0 : s = []
    · subst h0
      rw [lst_nil] at h
      injection h with h; subst h
      exact ⟨fun t ht => by simp at ht, by simp⟩
    · rcases hn : Pk.nxt s with c | ⟨t, q⟩
      · rw [lst_bad h0 hn] at h; cases h
      · rw [lst_ok h0 hn] at h
        have hq := Pk.nxt_lt hn
        have ht : t.length ≤ s.length := by
          have := rtext_lt ⟨s, 0⟩
          unfold Pk.Rd.text at this
          simpa [hn] using this
        cases hl : Pk.lst q with
        | none => rw [hl] at h; cases h
        | some m =>
          rw [hl] at h
          injection h with h
          subst h
          obtain ⟨h1, h2⟩ := ih q (by omega) m hl
          refine ⟨fun x hx => ?_, by simp; omega⟩
          rcases List.mem_cons.1 hx with rfl | hx
          · exact ht
          · have := h1 x hx; omega
theorem rlist_lens (r : Pk.Rd) : (∀ t ∈ r.list.1, t.length ≤ r.rest.length) ∧ r.list.1.length ≤ r.rest.length := by
  have h0 := rtext_lt r
  unfold Pk.Rd.list
  split
  · exact ⟨fun t ht => by simp at ht, by simp⟩
  · rename_i l h
    obtain ⟨h1, h2⟩ := lst_lens _ _ (Nat.le_refl _) l h
    exact ⟨fun t ht => Nat.le_trans (h1 t ht) h0, Nat.le_trans h2 h0⟩
theorem fin_le (r : Pk.Rd) (h : r.bad ≤ 12) : r.fin ≤ 12 := by unfold Pk.Rd.fin; split <;> omega
theorem own_grown {wx w2 w3 : World} {B : Nat} {e : TypeId} {size : Nat} {v : Value} {n : Nat} {xs : List Value} {g : Nat} (hown : wx.ownsRow B e size v n xs) (hb2 : Below wx.heap.size wx w2) (hg3 : w2.grownBy w3 (some g)) (hg0 : wx.heap.size ≤ g) : w3.ownsRow B e size v n xs := by
  refine ⟨hown.1, ?_⟩
  rcases hown.2 with h0 | ⟨g', cap, cur, hv, hg, hcc, h1, h2, h3, h4⟩
  · exact .inl h0
  · have hgx := lt_heap hcc
    exact .inr ⟨g', cap, cur, hv, hg, ((hg3.block g' (Nat.lt_of_lt_of_le hgx hb2.size) (fun e => by have := Option.some.inj e; omega)).trans (hb2.block g' hgx)).trans hcc, h1, h2, h3, h4⟩
theorem own_base {w : World} {B B' : Nat} {e : TypeId} {size : Nat} {v : Value} {n : Nat} {xs : List Value} (hown : w.ownsRow B e size v n xs) (hB : B' ≤ B) : w.ownsRow B' e size v n xs := by
  refine ⟨hown.1, ?_⟩
  rcases hown.2 with h0 | ⟨g, cap, cur, hv, hg, hcc⟩
  · exact .inl h0
  · exact .inr ⟨g, cap, cur, hv, Nat.le_trans hB hg, hcc⟩
set_option maxHeartbeats 4000000 in
theorem readF_any (l : List UInt8) (hl : l.length ≤ 500000000) (w : World) :
    Calls Tryz.prog 82 #[.string (bs l), .func (.func 83) #[] #[]] w (ReadFSays l w) := by
  have RD := Lib.hid (read_any l)
  have LL := rlist_lens ⟨l, 0⟩
  have AB := Lib.hid (@all_bad _ takesF l)
  have AO := Lib.hid (@all_ok _ takesF l)
  go_enter Tryz.func82, Tryz.ntmps82
  go_wp2_with (go_at_call 105; ((with_reducible refine (RD.out _).mono ?_); rintro e w1 ⟨rfl, hr1, hb1⟩))
  refine (rlist_any _ _ (by show l.length ≤ _; omega) _ hr1).mono ?_
  rintro e wl ⟨v, rfl, hown, hrl, hgl⟩
  generalize (Pk.Rd.list ⟨l, 0⟩).2 = r2 at *
  generalize (Pk.Rd.list ⟨l, 0⟩).1 = ts at *
  have hbl : Below w.heap.size w wl := hb1.grown hgl hb1.size (fun k hk => by cases hk; exact Nat.le_refl _)
  obtain ⟨A, m, c, rfl⟩ := own_form hown
  have hm : m = ts.length := by
    rcases hown.2 with ⟨h1, h2⟩ | ⟨g, cap, cur, h1, _⟩
    · injection h1; omega
    · injection h1
  subst hm
  have hst : Strs wl wl.heap.size A (ts.map bs) := by
    have := Reads.of_own hown
    unfold Strs
    rw [List.length_map, List.map_map]
    exact this
  have RE := Lib.hid (rend_any _ _ _ hrl)
  clear hown hgl hr1 hrl hb1
  by_cases hf : r2.fin = 0
  · have n1 : ((r2.fin : Int) != 0) = false := by simp; omega
    have AOH := Lib.hid (AO.out hf)
    clear hf AB AO
    go_wp2_with (go_at_call 108; ((with_reducible refine (RE.out).mono ?_); rintro e w' ⟨rfl, rfl⟩))
    clear n1
    go_loopw [9, 25] (fun v i wx => ∃ (k : Nat) (pre : List (List UInt8 × List UInt8)), i = .int .i64 k ∧ k ≤ ts.length ∧ pre.length = k ∧ wx.ownsRow wl.heap.size 71 2 v k (filesC pre) ∧ Below wl.heap.size wl wx ∧ Pk.each takesF ts = (Pk.each takesF (ts.drop k)).map (pre ++ ·)) (fun _ i _ => ts.length - (intOf i).toNat)
    case atStart => exact ⟨0, [], rfl, by omega, rfl, by simpa [filesC] using World.ownsRow_nil _ _ _ _, Below.refl _ _, by simp⟩
    case round =>
      obtain ⟨k, pre, rfl, hk, hpk, hown, hbx, hea⟩ := hrel
      rename World => wx
      by_cases hlt : k < ts.length
      · have hrx := hst.below hbx
        obtain ⟨ad, rfl, had, hc⟩ := hrx.at_ (k := k) (by simpa using hlt)
        have hc' : wx.cell? (ad.add k) = some (.string (bs ts[k])) := by simpa using hc
        have hkI : (k : Int) < (ts.length : Int) := by omega
        have hsl := LL.1 _ (List.getElem_mem hlt)
        rw [each_drop hlt] at hea
        have RDx := Lib.hid (read_any ts[k] wx)
        have TK := takeF_any wx.heap.size ⟨ts[k], 0⟩ (by show ts[k].length ≤ _; omega)
        clear hc hst
        generalize ts[k] = s at *
        go_wp2_with (go_at_call 105; ((with_reducible refine (RDx.out).mono ?_); rintro e w2 ⟨rfl, hr2, hb2⟩))
        refine (TK _ hr2).mono ?_
        rintro e w3 ⟨rfl, hr3, hg3⟩
        have hwx : Below w.heap.size w wx := hbl.trans (hbx.mono hbl.size)
        have hb3 : Below wl.heap.size wl w3 := (hbx.trans (hb2.mono hbx.size)).grown hg3 ((hbx.trans (hb2.mono hbx.size)).size) (fun g hg => by cases hg; exact hbx.size)
        have hownW := own_grown hown hb2 hg3 (Nat.le_refl _)
        clear hown hr2 hg3 hb2
        generalize takesF ⟨s, 0⟩ = tf at *
        obtain ⟨⟨p, d⟩, r3⟩ := tf
        simp only at hr3 hea
        have hB3 := hb3.size
        by_cases hf3 : r3.fin = 0
        · have n3 : ((r3.fin : Int) != 0) = false := by simp; omega
          rw [if_neg (by simpa using hf3)] at hea
          have HEA : Hid (Pk.each takesF ts = (Pk.each takesF (ts.drop (k + 1))).map ((pre ++ [(p, d)]) ++ ·)) := Lib.hid (by rw [hea]; cases Pk.each takesF (ts.drop (k + 1)) <;> simp)
          have FC : Hid (filesC (pre ++ [(p, d)]) = filesC pre ++ [.string (bs p), .string (bs d)]) := Lib.hid (by simp [filesC])
          have RE3 := fun o => rend_any wx.heap.size r3 (w3.alloc o) (hr3.later ((Below.refl _ _).alloc (Nat.le_refl _) o))
          have RE3H := Lib.hid RE3
          have hk9 : k + 1 ≤ 1000000000 := by omega
          have hbA : ∀ o, Below wl.heap.size wl (w3.alloc o) := fun o => hb3.alloc hb3.size o
          have hownA := fun o => hownW.alloc o
          clear hf3 hea hr3 RE3 hownW
          have HPK := Lib.hid hpk
          clear hpk
          go_wp2_with (first | (go_at_call 108; ((with_reducible refine (RE3H.out _).mono ?_); rintro e w' ⟨rfl, rfl⟩)) | (at_builtin; refine append_el rfl (.tmp 37) (.tmp 39) 22 rfl wl.heap.size 71 _ 2 32 Tryz.underlying22 file_info rfl (by decide) (by decide) _ k _ rfl (hownA _) [.string (bs p), .string (bs d)] _ rfl rfl (by simp [Value.oneCell']) _ (by simp) rfl hk9 (hbA _).size (hbA _) ?_; intro v' w4 hown4 hb4 _))
          go_roundw
          case rel =>
            refine ⟨k + 1, pre ++ [(p, d)], by go_num, by omega, by simp [HPK.out], ?_, hb4, HEA.out⟩
            rw [FC.out]
            exact hown4
          case measure => simp [intOf]; omega
        · have n3 : ((r3.fin : Int) != 0) = true := by simp; omega
          rw [if_pos (by simpa using hf3)] at hea
          have AH : Hid (Pk.all takesF l = ([], 11)) := Lib.hid (by rw [AOH.out, hea]; rfl)
          have RE3 := fun o => rend_any wx.heap.size r3 (w3.alloc o) (hr3.later ((Below.refl _ _).alloc (Nat.le_refl _) o))
          have RE3H := Lib.hid RE3
          clear hf3 hea hr3 RE3 hownW
          have hfin : ∀ o, Below w.heap.size w (w3.alloc o) := fun o => (hbl.trans (hb3.mono hbl.size)).alloc (hbl.trans (hb3.mono hbl.size)).size o
          go_wp2_with (go_at_call 108; ((with_reducible refine (RE3H.out _).mono ?_); rintro e w' ⟨rfl, rfl⟩))
          go_ret2
          exact ⟨_, ret_val (by rw [AH.out]; rfl), by rw [AH.out]; simpa [filesC] using World.ownsRow_nil _ _ _ _, hfin _⟩
      · obtain rfl : k = ts.length := by omega
        rw [List.drop_length, Pk.each] at hea
        have AH : Hid (Pk.all takesF l = (pre, 0)) := Lib.hid (by rw [AOH.out, hea]; simp)
        have hfin : Below w.heap.size w wx := hbl.trans (hbx.mono hbl.size)
        have hownF := own_base hown hbl.size
        rw [← hpk] at hownF
        obtain ⟨p, m, c', rfl⟩ := own_form hown
        clear hown hea hpk
        go_wp2_with (fail)
        go_ret2
        exact ⟨_, ret_val (by rw [AH.out]; rfl), by rw [AH.out]; exact hownF, hfin⟩
  · have n1 : ((r2.fin : Int) != 0) = true := by simp; omega
    have ABH := Lib.hid (AB.out hf)
    clear hf AB AO
    go_wp2_with (go_at_call 108; ((with_reducible refine (RE.out).mono ?_); rintro e w' ⟨rfl, rfl⟩))
    go_ret2
    exact ⟨_, ret_val (by rw [ABH.out]; rfl), by rw [ABH.out]; simpa [filesC] using World.ownsRow_nil _ _ _ _, hbl⟩
end Go.Proofs.YtcpkhaebcmgehaaGreatDoor
