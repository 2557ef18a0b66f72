/- Joined by mkmerged.py: PkRf, PkRt, PkRts, TgRow. -/
import Derived.Test.YtmlaolmaopjhbaaGreatDoorMi21
import Derived.Test.YtmlaolmaopjhbaaGreatDoorMi16
import Derived.Laws.StructEq
/- PkRf, what a claim needs of it (prune.py). -/
namespace Go.Proofs.YtmlaolmaopjhbaaGreatDoor
open Go.RowKit
set_option linter.unusedVariables false
set_option maxRecDepth 100000
def takesF (r : Pk.Rd) : (List UInt8 × List UInt8) × Pk.Rd := ((r.text.1, r.text.2.text.1), r.text.2.text.2)
theorem rtext_rest (r : Pk.Rd) : r.text.2.rest.length ≤ r.rest.length := by
  unfold Pk.Rd.text
  split
  · simp
  · split
    · simp
    · rename_i t q h
      exact Nat.le_of_lt (Pk.nxt_lt h)
theorem RdAt.grown {w w' : World} {b : Nat} {r : Pk.Rd} (h : RdAt w b r) {g : Nat} (k : w.grownBy w' (some g)) (hne : b ≠ g) : RdAt w' b r := (k.block b (lt_heap h) (fun e => hne (Option.some.inj e))).trans h
set_option maxHeartbeats 4000000 in
theorem takeF_any (b : Nat) (r : Pk.Rd) (hs : r.rest.length ≤ 1000000000) (w : World) (h : RdAt w b r) :
    Calls Tryz.prog 217 #[.pointer (some ⟨b, 0, none⟩)] w fun e w' => e = .returned (.agg #[.string (bs (takesF r).1.1), .string (bs (takesF r).1.2)]) ∧ RdAt w' b (takesF r).2 ∧ w.grownBy w' (some b) := by
  have hbw : b < w.heap.size := lt_heap h
  have TF : Hid (takesF r = ((r.text.1, r.text.2.text.1), r.text.2.text.2)) := Lib.hid rfl
  have hs1 : r.text.2.rest.length ≤ 1000000000 := Nat.le_trans (rtext_rest r) hs
  have R1 := Lib.hid (fun W hW => rtext_any b r hs W hW)
  have R2 := Lib.hid (fun W hW => rtext_any b r.text.2 hs1 W hW)
  generalize r.text.2 = r1 at *
  generalize r.text.1 = p at *
  generalize r1.text.1 = d at *
  generalize r1.text.2 = r2 at *
  have H := Lib.hid h
  clear h
  go_enter Tryz.func217, Tryz.ntmps217
  go_wp2_with (fail)
  obtain ⟨W1, eW⟩ : ∃ W1, W1 = (w.alloc (.cells #[.string ⟨#[]⟩, .string ⟨#[]⟩] 131)).alloc (.cells #[.string ⟨#[]⟩, .string ⟨#[]⟩] 131) := ⟨_, rfl⟩
  have hb0 : Below w.heap.size w W1 := by rw [eW]; exact ((Below.refl _ _).alloc (Nat.le_refl _) _).alloc (by simp) _
  have q0 : W1.heap[w.heap.size]? = some (.cells #[.string ⟨#[]⟩, .string ⟨#[]⟩] 131 (0, 0)) := by rw [eW]; exact heap_alloc_lt (heap_alloc_new w _)
  have q1 : W1.heap[w.heap.size + 1]? = some (.cells #[.string ⟨#[]⟩, .string ⟨#[]⟩] 131 (0, 0)) := by
    rw [eW]
    have := heap_alloc_new (w.alloc (.cells #[.string ⟨#[]⟩, .string ⟨#[]⟩] 131)) (.cells #[.string ⟨#[]⟩, .string ⟨#[]⟩] 131)
    simpa using this
  rw [← eW]
  clear eW
  refine (R1.out _ (H.out.later hb0)).mono ?_
  rintro e w2 ⟨rfl, hr2, hg2⟩
  have z1 : W1.heap.size > w.heap.size + 1 := lt_heap q1
  have q0' := (hg2.block _ (lt_heap q0) (fun e => by have := Option.some.inj e; omega)).trans q0
  have q1' := (hg2.block _ (lt_heap q1) (fun e => by have := Option.some.inj e; omega)).trans q1
  have c10 : w2.cell? ⟨w.heap.size + 1, 0, none⟩ = some (.string ⟨#[]⟩) := (cell_heap q1' 0).trans rfl
  have c11 : w2.cell? ⟨w.heap.size + 1, 1, none⟩ = some (.string ⟨#[]⟩) := (cell_heap q1' 1).trans rfl
  have f10 : w2.frozen? ⟨w.heap.size + 1, 0, none⟩ = false := frozen_heap q1' 0
  go_wp2_with (fail)
  have hr2' : RdAt (w2.setCell ⟨w.heap.size + 1, 0, none⟩ (.string (bs p))) b r1 := (heap_set_ne (show w.heap.size + 1 ≠ b by omega)).trans hr2
  have q1w := heap_set (off := 0) (v := .string (bs p)) q1'
  have q0w : (w2.setCell ⟨w.heap.size + 1, 0, none⟩ (.string (bs p))).heap[w.heap.size]? = _ := (heap_set_ne (show w.heap.size + 1 ≠ w.heap.size by omega)).trans q0'
  have hgw : w.grownBy (w2.setCell ⟨w.heap.size + 1, 0, none⟩ (.string (bs p))) (some b) := grown_set (grown_trans (grown_of_below hb0 _) hg2) (.inl (by simp)) _ _
  clear q0 q1 q0' q1' c10 c11 f10
  generalize w2.setCell ⟨w.heap.size + 1, 0, none⟩ (.string (bs p)) = W2 at *
  refine (R2.out _ hr2').mono ?_
  rintro e w3 ⟨rfl, hr3, hg3⟩
  have q0' := (hg3.block _ (lt_heap q0w) (fun e => by have := Option.some.inj e; omega)).trans q0w
  have q1' := (hg3.block _ (lt_heap q1w) (fun e => by have := Option.some.inj e; omega)).trans q1w
  have c10 : w3.cell? ⟨w.heap.size + 1, 0, none⟩ = some (.string (bs p)) := (cell_heap q1' 0).trans rfl
  have c11 : w3.cell? ⟨w.heap.size + 1, 1, none⟩ = some (.string ⟨#[]⟩) := (cell_heap q1' 1).trans rfl
  have f11 : w3.frozen? ⟨w.heap.size + 1, 1, none⟩ = false := frozen_heap q1' 1
  have c00 : w3.cell? ⟨w.heap.size, 0, none⟩ = some (.string ⟨#[]⟩) := (cell_heap q0' 0).trans rfl
  have c01 : w3.cell? ⟨w.heap.size, 1, none⟩ = some (.string ⟨#[]⟩) := (cell_heap q0' 1).trans rfl
  have f00 : w3.frozen? ⟨w.heap.size, 0, none⟩ = false := frozen_heap q0' 0
  have f01 : w3.frozen? ⟨w.heap.size, 1, none⟩ = false := frozen_heap q0' 1
  have hgz := grown_trans hgw hg3
  clear q0w q1w hgw hg3 hg2 hr2 hr2' q0' q1'
  go_wp2_with (fail)
  refine bodyPost_ret (v := .agg #[.string (bs p), .string (bs d)]) (by simp [results, Tryz.results217, go_sem, c00, c01]) rfl ⟨by rw [TF.out], ?_, ?_⟩
  · rw [TF.out]
    exact (heap_set_ne (by omega)).trans ((heap_set_ne (by omega)).trans ((heap_set_ne (by omega)).trans hr3))
  · exact grown_set (grown_set (grown_set hgz (.inl (by simp)) _ _) (.inl (by simp)) _ _) (.inl (by simp)) _ _
end Go.Proofs.YtmlaolmaopjhbaaGreatDoor
namespace Go.Proofs.YtmlaolmaopjhbaaGreatDoor
open Go.RowKit
set_option linter.unusedVariables false
set_option maxRecDepth 100000
theorem append_el {P : Program} {ops : Array Oper} {rest : List Oper} {o : Oper} {a : Act} {Q : Exit → Act → World → Prop} {wr w0 : World} (hgd : o.guard = none) (s x : Operand) (t : TypeId)
    (ho : o.op = .call { callee := .builtin .append, args := #[s, x], argTypes := #[t, t] }) (B : Nat) (e : TypeId) (z : Value) (size by_ : Nat) (ht : P.underlying t = some (.slice e))
    (hi : (P.info? e).map (fun i => (i.zero, i.size, i.bytes)) = some (some z, size, by_)) (hz : z.cells.size = size) (hsz : 0 < size) (hby : by_ ≤ 1000)
    (v : Value) (n : Nat) (xs : List Value) (hs : a.eval s = v) (hown : wr.ownsRow B e size v n xs)
    (us : List Value) (cs : Array Value) (hcs : cs = us.toArray) (hul : us.length = size) (hu : ∀ u ∈ us, u.oneCell' = true) (g : Nat) (hg : g = wr.heap.size) (hx : a.eval x = .slice (some ⟨g, 0, none⟩) 1 1) (hn : n + 1 ≤ 1000000000)
    (hB : B ≤ wr.heap.size) (hb : Below B w0 wr)
    (h : ∀ v' w', w'.ownsRow B e size v' (n + 1) (xs ++ us) → Below B w0 w' → (∀ k, k < wr.heap.size → some k ≠ v.ownBlock → w'.heap[k]? = wr.heap[k]?) → wpList P ops Q rest (a.put o.dst v') w') :
    wpList P ops Q (o :: rest) a (wr.alloc (.cells cs e)) := by
  obtain ⟨i0, hi0, hz0, hz1, hz2⟩ := info_parts hi
  subst hcs hg
  have hmul : (n + 1) * by_ ≤ 1000000000 * 1000 := Nat.mul_le_mul hn hby
  refine wpList_append_own _ hgd s x t ho B e i0 z size by_ ht hi0 hz0 hz1 hz2 hz hsz v n xs hs (hown.alloc _) ⟨wr.heap.size, 0, none⟩ 1 1 us hx (by omega) ?_ hu ?_ (by omega) (by simp; omega) ?_
  · intro j y hy
    rw [Addr.add_mid, Nat.zero_add, cell_heap (heap_alloc_new wr _)]
    simpa using hy
  · unfold maxLen; omega
  · intro v' w' h1 h2 _
    refine h v' w' h1 ?_ ?_
    · exact (hb.alloc hB _).grown h2 (by simp; omega) (fun k hk => (hown.lt k hk).1)
    · intro k hk hne
      rw [h2.block k (by simp; omega) hne, Below.heap_alloc _ _ _ hk]
theorem file_info : (Tryz.prog.info? 131).map (fun i => (i.zero, i.size, i.bytes)) = some (some (.agg #[.string .empty, .string .empty]), 2, 32) := by kernel_rfl
def filesC (l : List (List UInt8 × List UInt8)) : List Value := l.flatMap fun f => [.string (bs f.1), .string (bs f.2)]
def ReadFSays (l : List UInt8) (w : World) (e : Ending) (w' : World) : Prop :=
  ∃ v, e = .returned (.tuple #[v, .int .i64 (Pk.all takesF l).2]) ∧ w'.ownsRow w.heap.size 131 2 v (Pk.all takesF l).1.length (filesC (Pk.all takesF l).1) ∧ Below w.heap.size w w'
theorem all_bad {α : Type} {takes : Pk.Rd → α × Pk.Rd} {l : List UInt8} (h : (Pk.Rd.list ⟨l, 0⟩).2.fin ≠ 0) : Pk.all takes l = ([], (Pk.Rd.list ⟨l, 0⟩).2.fin) := by
  unfold Pk.all; simp [h]
theorem all_ok {α : Type} {takes : Pk.Rd → α × Pk.Rd} {l : List UInt8} (h : (Pk.Rd.list ⟨l, 0⟩).2.fin = 0) : Pk.all takes l = match Pk.each takes (Pk.Rd.list ⟨l, 0⟩).1 with | none => ([], 11) | some a => (a, 0) := by
  unfold Pk.all; simp [h]; cases Pk.each takes (Pk.Rd.list ⟨l, 0⟩).1 <;> rfl
theorem each_drop {α : Type} {takes : Pk.Rd → α × Pk.Rd} {l : List (List UInt8)} {k : Nat} (h : k < l.length) : Pk.each takes (l.drop k) = if (takes ⟨l[k], 0⟩).2.fin ≠ 0 then none else (Pk.each takes (l.drop (k + 1))).map ((takes ⟨l[k], 0⟩).1 :: ·) := by
  rw [List.drop_eq_getElem_cons h, Pk.each]
theorem lst_lens : ∀ (n : Nat) (s : List UInt8), s.length ≤ n → ∀ l, Pk.lst s = some l → (∀ t ∈ l, t.length ≤ s.length) ∧ l.length ≤ s.length := by
  intro n
  induction n with
  | zero =>
    intro s hs l h
    obtain rfl : s = [] := List.eq_nil_of_length_eq_zero (by omega)
    rw [lst_nil] at h
    injection h with h; subst h
    exact ⟨fun t ht => by simp at ht, by simp⟩
  | succ n ih =>
    intro s hs l h
    by_cases h0 : s = []
    · subst h0
      rw [lst_nil] at h
      injection h with h; subst h
      exact ⟨fun t ht => by simp at ht, by simp⟩
    · rcases hn : Pk.nxt s with c | ⟨t, q⟩
      · rw [lst_bad h0 hn] at h; cases h
      · rw [lst_ok h0 hn] at h
        have hq := Pk.nxt_lt hn
        have ht : t.length ≤ s.length := by
          have := rtext_lt ⟨s, 0⟩
          unfold Pk.Rd.text at this
          simpa [hn] using this
        cases hl : Pk.lst q with
        | none => rw [hl] at h; cases h
        | some m =>
          rw [hl] at h
          injection h with h
          subst h
          obtain ⟨h1, h2⟩ := ih q (by omega) m hl
          refine ⟨fun x hx => ?_, by simp; omega⟩
          rcases List.mem_cons.1 hx with rfl | hx
          · exact ht
          · have := h1 x hx; omega
theorem rlist_lens (r : Pk.Rd) : (∀ t ∈ r.list.1, t.length ≤ r.rest.length) ∧ r.list.1.length ≤ r.rest.length := by
  have h0 := rtext_lt r
  unfold Pk.Rd.list
  split
  · exact ⟨fun t ht => by simp at ht, by simp⟩
  · rename_i l h
    obtain ⟨h1, h2⟩ := lst_lens _ _ (Nat.le_refl _) l h
    exact ⟨fun t ht => Nat.le_trans (h1 t ht) h0, Nat.le_trans h2 h0⟩
theorem own_grown {wx w2 w3 : World} {B : Nat} {e : TypeId} {size : Nat} {v : Value} {n : Nat} {xs : List Value} {g : Nat} (hown : wx.ownsRow B e size v n xs) (hb2 : Below wx.heap.size wx w2) (hg3 : w2.grownBy w3 (some g)) (hg0 : wx.heap.size ≤ g) : w3.ownsRow B e size v n xs := by
  refine ⟨hown.1, ?_⟩
  rcases hown.2 with h0 | ⟨g', cap, cur, hv, hg, hcc, h1, h2, h3, h4⟩
  · exact .inl h0
  · have hgx := lt_heap hcc
    exact .inr ⟨g', cap, cur, hv, hg, ((hg3.block g' (Nat.lt_of_lt_of_le hgx hb2.size) (fun e => by have := Option.some.inj e; omega)).trans (hb2.block g' hgx)).trans hcc, h1, h2, h3, h4⟩
theorem own_base {w : World} {B B' : Nat} {e : TypeId} {size : Nat} {v : Value} {n : Nat} {xs : List Value} (hown : w.ownsRow B e size v n xs) (hB : B' ≤ B) : w.ownsRow B' e size v n xs := by
  refine ⟨hown.1, ?_⟩
  rcases hown.2 with h0 | ⟨g, cap, cur, hv, hg, hcc⟩
  · exact .inl h0
  · exact .inr ⟨g, cap, cur, hv, Nat.le_trans hB hg, hcc⟩
set_option maxHeartbeats 4000000 in
theorem readF_any (l : List UInt8) (hl : l.length ≤ 500000000) (w : World) :
    Calls Tryz.prog 216 #[.string (bs l), .func (.func 217) #[] #[]] w (ReadFSays l w) := by
  have RD := Lib.hid (read_any l)
  have LL := rlist_lens ⟨l, 0⟩
  have AB := Lib.hid (@all_bad _ takesF l)
  have AO := Lib.hid (@all_ok _ takesF l)
  go_enter Tryz.func216, Tryz.ntmps216
  go_wp2_with (go_at_call 69; ((with_reducible refine (RD.out _).mono ?_); rintro e w1 ⟨rfl, hr1, hb1⟩))
  refine (rlist_any _ _ (by show l.length ≤ _; omega) _ hr1).mono ?_
  rintro e wl ⟨v, rfl, hown, hrl, hgl⟩
  generalize (Pk.Rd.list ⟨l, 0⟩).2 = r2 at *
  generalize (Pk.Rd.list ⟨l, 0⟩).1 = ts at *
  have hbl : Below w.heap.size w wl := hb1.grown hgl hb1.size (fun k hk => by cases hk; exact Nat.le_refl _)
  obtain ⟨A, m, c, rfl⟩ := own_form hown
  have hm : m = ts.length := by
    rcases hown.2 with ⟨h1, h2⟩ | ⟨g, cap, cur, h1, _⟩
    · injection h1; omega
    · injection h1
  subst hm
  have hst : Strs wl wl.heap.size A (ts.map bs) := by
    have := Reads.of_own hown
    unfold Strs
    rw [List.length_map, List.map_map]
    exact this
  have RE := Lib.hid (rend_any _ _ _ hrl)
  clear hown hgl hr1 hrl hb1
  by_cases hf : r2.fin = 0
  · have n1 : ((r2.fin : Int) != 0) = false := by simp; omega
    have AOH := Lib.hid (AO.out hf)
    clear hf AB AO
    go_wp2_with (go_at_call 71; ((with_reducible refine (RE.out).mono ?_); rintro e w' ⟨rfl, rfl⟩))
    clear n1
    go_loopw [9, 25] (fun v i wx => ∃ (k : Nat) (pre : List (List UInt8 × List UInt8)), i = .int .i64 k ∧ k ≤ ts.length ∧ pre.length = k ∧ wx.ownsRow wl.heap.size 131 2 v k (filesC pre) ∧ Below wl.heap.size wl wx ∧ Pk.each takesF ts = (Pk.each takesF (ts.drop k)).map (pre ++ ·)) (fun _ i _ => ts.length - (intOf i).toNat)
    case atStart => exact ⟨0, [], rfl, by omega, rfl, by simpa [filesC] using World.ownsRow_nil _ _ _ _, Below.refl _ _, by simp⟩
    case round =>
      obtain ⟨k, pre, rfl, hk, hpk, hown, hbx, hea⟩ := hrel
      rename World => wx
      by_cases hlt : k < ts.length
      · have hrx := hst.below hbx
        obtain ⟨ad, rfl, had, hc⟩ := hrx.at_ (k := k) (by simpa using hlt)
        have hc' : wx.cell? (ad.add k) = some (.string (bs ts[k])) := by simpa using hc
        have hkI : (k : Int) < (ts.length : Int) := by omega
        have hsl := LL.1 _ (List.getElem_mem hlt)
        rw [each_drop hlt] at hea
        have RDx := Lib.hid (read_any ts[k] wx)
        have TK := takeF_any wx.heap.size ⟨ts[k], 0⟩ (by show ts[k].length ≤ _; omega)
        clear hc hst
        generalize ts[k] = s at *
        go_wp2_with (go_at_call 69; ((with_reducible refine (RDx.out).mono ?_); rintro e w2 ⟨rfl, hr2, hb2⟩))
        refine (TK _ hr2).mono ?_
        rintro e w3 ⟨rfl, hr3, hg3⟩
        have hwx : Below w.heap.size w wx := hbl.trans (hbx.mono hbl.size)
        have hb3 : Below wl.heap.size wl w3 := (hbx.trans (hb2.mono hbx.size)).grown hg3 ((hbx.trans (hb2.mono hbx.size)).size) (fun g hg => by cases hg; exact hbx.size)
        have hownW := own_grown hown hb2 hg3 (Nat.le_refl _)
        clear hown hr2 hg3 hb2
        generalize takesF ⟨s, 0⟩ = tf at *
        obtain ⟨⟨p, d⟩, r3⟩ := tf
        simp only at hr3 hea
        have hB3 := hb3.size
        by_cases hf3 : r3.fin = 0
        · have n3 : ((r3.fin : Int) != 0) = false := by simp; omega
          rw [if_neg (by simpa using hf3)] at hea
          have HEA : Hid (Pk.each takesF ts = (Pk.each takesF (ts.drop (k + 1))).map ((pre ++ [(p, d)]) ++ ·)) := Lib.hid (by rw [hea]; cases Pk.each takesF (ts.drop (k + 1)) <;> simp)
          have FC : Hid (filesC (pre ++ [(p, d)]) = filesC pre ++ [.string (bs p), .string (bs d)]) := Lib.hid (by simp [filesC])
          have RE3 := fun o => rend_any wx.heap.size r3 (w3.alloc o) (hr3.later ((Below.refl _ _).alloc (Nat.le_refl _) o))
          have RE3H := Lib.hid RE3
          have hk9 : k + 1 ≤ 1000000000 := by omega
          have hbA : ∀ o, Below wl.heap.size wl (w3.alloc o) := fun o => hb3.alloc hb3.size o
          have hownA := fun o => hownW.alloc o
          clear hf3 hea hr3 RE3 hownW
          have HPK := Lib.hid hpk
          clear hpk
          go_wp2_with (first | (go_at_call 71; ((with_reducible refine (RE3H.out _).mono ?_); rintro e w' ⟨rfl, rfl⟩)) | (at_builtin; refine append_el rfl (.tmp 37) (.tmp 39) 28 rfl wl.heap.size 131 _ 2 32 Tryz.underlying28 file_info rfl (by decide) (by decide) _ k _ rfl (hownA _) [.string (bs p), .string (bs d)] _ rfl rfl (by simp [Value.oneCell']) _ (by simp) rfl hk9 (hbA _).size (hbA _) ?_; intro v' w4 hown4 hb4 _))
          go_roundw
          case rel =>
            refine ⟨k + 1, pre ++ [(p, d)], by go_num, by omega, by simp [HPK.out], ?_, hb4, HEA.out⟩
            rw [FC.out]
            exact hown4
          case measure => simp [intOf]; omega
        · have n3 : ((r3.fin : Int) != 0) = true := by simp; omega
          rw [if_pos (by simpa using hf3)] at hea
          have AH : Hid (Pk.all takesF l = ([], 11)) := Lib.hid (by rw [AOH.out, hea]; rfl)
          have RE3 := fun o => rend_any wx.heap.size r3 (w3.alloc o) (hr3.later ((Below.refl _ _).alloc (Nat.le_refl _) o))
          have RE3H := Lib.hid RE3
          clear hf3 hea hr3 RE3 hownW
          have hfin : ∀ o, Below w.heap.size w (w3.alloc o) := fun o => (hbl.trans (hb3.mono hbl.size)).alloc (hbl.trans (hb3.mono hbl.size)).size o
          go_wp2_with (go_at_call 71; ((with_reducible refine (RE3H.out _).mono ?_); rintro e w' ⟨rfl, rfl⟩))
          go_ret2
          exact ⟨_, ret_val (by rw [AH.out]; rfl), by rw [AH.out]; simpa [filesC] using World.ownsRow_nil _ _ _ _, hfin _⟩
      · obtain rfl : k = ts.length := by omega
        rw [List.drop_length, Pk.each] at hea
        have AH : Hid (Pk.all takesF l = (pre, 0)) := Lib.hid (by rw [AOH.out, hea]; simp)
        have hfin : Below w.heap.size w wx := hbl.trans (hbx.mono hbl.size)
        have hownF := own_base hown hbl.size
        rw [← hpk] at hownF
        obtain ⟨p, m, c', rfl⟩ := own_form hown
        clear hown hea hpk
        go_wp2_with (fail)
        go_ret2
        exact ⟨_, ret_val (by rw [AH.out]; rfl), by rw [AH.out]; exact hownF, hfin⟩
  · have n1 : ((r2.fin : Int) != 0) = true := by simp; omega
    have ABH := Lib.hid (AB.out hf)
    clear hf AB AO
    go_wp2_with (go_at_call 71; ((with_reducible refine (RE.out).mono ?_); rintro e w' ⟨rfl, rfl⟩))
    go_ret2
    exact ⟨_, ret_val (by rw [ABH.out]; rfl), by rw [ABH.out]; simpa [filesC] using World.ownsRow_nil _ _ _ _, hbl⟩
end Go.Proofs.YtmlaolmaopjhbaaGreatDoor
/- PkRt, what a claim needs of it (prune.py). -/
namespace Go.Proofs.YtmlaolmaopjhbaaGreatDoor
open Go.RowKit
set_option linter.unusedVariables false
set_option maxRecDepth 100000
structure TgL where
  n : List UInt8
  c : List UInt8
  ds : List (List UInt8)
  ss : List (List UInt8)
def takesT (r : Pk.Rd) : TgL × Pk.Rd := (⟨r.text.1, r.text.2.text.1, r.text.2.text.2.list.1, r.text.2.text.2.list.2.list.1⟩, r.text.2.text.2.list.2.list.2)
theorem rlist_rest (r : Pk.Rd) : r.list.2.rest.length ≤ r.rest.length := by
  have := rtext_rest r
  unfold Pk.Rd.list
  split <;> exact this
theorem own_far {w : World} {B : Nat} {e : TypeId} {size : Nat} {v : Value} {n : Nat} {xs : List Value} (h : w.ownsRow B e size v n xs) {g : Nat} (hg : g < B) (i : Nat) (u : Value) : (w.setCell ⟨g, i, none⟩ u).ownsRow B e size v n xs := by
  refine ⟨h.1, ?_⟩
  rcases h.2 with h0 | ⟨g', cap, cur, hv, hgg, hcc, h1, h2, h3, h4⟩
  · exact .inl h0
  · exact .inr ⟨g', cap, cur, hv, hgg, (heap_set_ne (by omega)).trans hcc, h1, h2, h3, h4⟩
theorem own_grownX {wx w' : World} {B : Nat} {e : TypeId} {size : Nat} {v : Value} {n : Nat} {xs : List Value} {g : Nat} (hown : wx.ownsRow B e size v n xs) (hg : wx.grownBy w' (some g)) (hgB : g < B) : w'.ownsRow B e size v n xs := by
  refine ⟨hown.1, ?_⟩
  rcases hown.2 with h0 | ⟨g', cap, cur, hv, hgg, hcc, h1, h2, h3, h4⟩
  · exact .inl h0
  · exact .inr ⟨g', cap, cur, hv, hgg, (hg.block g' (lt_heap hcc) (fun e => by have := Option.some.inj e; omega)).trans hcc, h1, h2, h3, h4⟩
structure TS (w W : World) (b : Nat) (r : Pk.Rd) (c0 c1 : Array Value) : Prop where
  rd : RdAt W b r
  g : w.grownBy W (some b)
  z0 : W.heap[w.heap.size]? = some (.cells c0 154 (0, 0))
  z1 : W.heap[w.heap.size + 1]? = some (.cells c1 154 (0, 0))
namespace TS
variable {w W W' : World} {b : Nat} {r r' : Pk.Rd} {c0 c1 : Array Value}
theorem call (h : TS w W b r c0 c1) (hb : b < w.heap.size) (k : W.grownBy W' (some b)) (hr : RdAt W' b r') : TS w W' b r' c0 c1 :=
  ⟨hr, grown_trans h.g k, (k.block _ (lt_heap h.z0) (fun e => by have := Option.some.inj e; omega)).trans h.z0, (k.block _ (lt_heap h.z1) (fun e => by have := Option.some.inj e; omega)).trans h.z1⟩
theorem set_ (h : TS w W b r c0 c1) (hb : b < w.heap.size) (i : Nat) (v : Value) : TS w (W.setCell ⟨w.heap.size + 1, i, none⟩ v) b r c0 (c1.setIfInBounds i v) :=
  ⟨(heap_set_ne (by omega)).trans h.rd, grown_set h.g (.inl (by simp)) _ _, (heap_set_ne (by omega)).trans h.z0, heap_set h.z1⟩
theorem lt1 (h : TS w W b r c0 c1) : w.heap.size + 1 < W.heap.size := lt_heap h.z1
theorem cell1 (h : TS w W b r c0 c1) (i : Nat) : W.cell? ⟨w.heap.size + 1, i, none⟩ = c1[i]? := cell_heap h.z1 i
theorem frozen1 (h : TS w W b r c0 c1) (i : Nat) : W.frozen? ⟨w.heap.size + 1, i, none⟩ = false := frozen_heap h.z1 i
theorem cell0 (h : TS w W b r c0 c1) (i : Nat) : W.cell? ⟨w.heap.size, i, none⟩ = c0[i]? := cell_heap h.z0 i
theorem frozen0 (h : TS w W b r c0 c1) (i : Nat) : W.frozen? ⟨w.heap.size, i, none⟩ = false := frozen_heap h.z0 i
end TS
def zT : Array Value := #[.string ⟨#[]⟩, .string ⟨#[]⟩, .slice none 0 0, .slice none 0 0]
def TakeTSays (b : Nat) (r : Pk.Rd) (w : World) (e : Ending) (w' : World) : Prop :=
  ∃ v2 v3, e = .returned (.agg #[.string (bs (takesT r).1.n), .string (bs (takesT r).1.c), v2, v3]) ∧ w'.ownsRow w.heap.size 9 1 v2 (takesT r).1.ds.length ((takesT r).1.ds.map fun t => Value.string (bs t)) ∧
    w'.ownsRow w.heap.size 9 1 v3 (takesT r).1.ss.length ((takesT r).1.ss.map fun t => Value.string (bs t)) ∧ RdAt w' b (takesT r).2 ∧ w.grownBy w' (some b)
set_option maxHeartbeats 8000000 in
theorem takeT_any (b : Nat) (r : Pk.Rd) (hs : r.rest.length ≤ 1000000000) (w : World) (h : RdAt w b r) :
    Calls Tryz.prog 215 #[.pointer (some ⟨b, 0, none⟩)] w (TakeTSays b r w) := by
  have hbw : b < w.heap.size := lt_heap h
  have TF : Hid (takesT r = (⟨r.text.1, r.text.2.text.1, r.text.2.text.2.list.1, r.text.2.text.2.list.2.list.1⟩, r.text.2.text.2.list.2.list.2)) := Lib.hid rfl
  have hs1 : r.text.2.rest.length ≤ 1000000000 := Nat.le_trans (rtext_rest r) hs
  have hs2 : r.text.2.text.2.rest.length ≤ 1000000000 := Nat.le_trans (rtext_rest _) hs1
  have hs3 : r.text.2.text.2.list.2.rest.length ≤ 1000000000 := Nat.le_trans (rlist_rest _) hs2
  have R1 := Lib.hid (fun W hW => rtext_any b r hs W hW)
  have R2 := Lib.hid (fun W hW => rtext_any b r.text.2 hs1 W hW)
  have R3 := Lib.hid (fun W hW => rlist_any b r.text.2.text.2 hs2 W hW)
  have R4 := Lib.hid (fun W hW => rlist_any b r.text.2.text.2.list.2 hs3 W hW)
  have H := Lib.hid h
  clear h
  go_enter Tryz.func215, Tryz.ntmps215
  go_wp2_with (fail)
  obtain ⟨W1, eW⟩ : ∃ W1, W1 = (w.alloc (.cells #[.string ⟨#[]⟩, .string ⟨#[]⟩, .slice none 0 0, .slice none 0 0] 154)).alloc (.cells #[.string ⟨#[]⟩, .string ⟨#[]⟩, .slice none 0 0, .slice none 0 0] 154) := ⟨_, rfl⟩
  have hb0 : Below w.heap.size w W1 := by rw [eW]; exact ((Below.refl _ _).alloc (Nat.le_refl _) _).alloc (by simp) _
  have t1 : TS w W1 b r zT zT := ⟨H.out.later hb0, grown_of_below hb0 _, by rw [eW]; exact heap_alloc_lt (heap_alloc_new w _), by
    rw [eW]
    have h9 := heap_alloc_new (w.alloc (.cells #[.string ⟨#[]⟩, .string ⟨#[]⟩, .slice none 0 0, .slice none 0 0] 154)) (.cells zT 154)
    rw [World.size_alloc] at h9
    exact h9⟩
  rw [← eW]
  clear eW hb0
  refine (R1.out _ t1.rd).mono ?_
  rintro e w2 ⟨rfl, hr2, hg2⟩
  have t2 := t1.call hbw hg2 hr2
  have c2 : w2.cell? ⟨w.heap.size + 1, 0, none⟩ = some (.string ⟨#[]⟩) := t2.cell1 0
  have f2 := t2.frozen1 0
  go_wp2_with (fail)
  have t2s := t2.set_ hbw 0 (.string (bs r.text.1))
  clear t1 t2 c2 f2 hg2 hr2
  generalize w2.setCell ⟨w.heap.size + 1, 0, none⟩ (.string (bs r.text.1)) = W2 at *
  refine (R2.out _ t2s.rd).mono ?_
  rintro e w3 ⟨rfl, hr3, hg3⟩
  have t3 := t2s.call hbw hg3 hr3
  have c3 : w3.cell? ⟨w.heap.size + 1, 1, none⟩ = some (.string ⟨#[]⟩) := t3.cell1 1
  have f3 := t3.frozen1 1
  go_wp2_with (fail)
  have t3s := t3.set_ hbw 1 (.string (bs r.text.2.text.1))
  clear t2s t3 c3 f3 hg3 hr3
  generalize w3.setCell ⟨w.heap.size + 1, 1, none⟩ (.string (bs r.text.2.text.1)) = W3 at *
  refine (R3.out _ t3s.rd).mono ?_
  rintro e w4 ⟨v2, rfl, ho2, hr4, hg4⟩
  obtain ⟨p2, m2, k2, rfl⟩ := own_form ho2
  have l3 := t3s.lt1
  have t4 := t3s.call hbw hg4 hr4
  have c4 : w4.cell? ⟨w.heap.size + 1, 2, none⟩ = some (.slice none 0 0) := t4.cell1 2
  have f4 := t4.frozen1 2
  go_wp2_with (fail)
  have t4s := t4.set_ hbw 2 (.slice p2 m2 k2)
  have ho2s := own_far ho2 l3 2 (.slice p2 m2 k2)
  clear t3s t4 c4 f4 hg4 hr4 ho2
  generalize w4.setCell ⟨w.heap.size + 1, 2, none⟩ (.slice p2 m2 k2) = W4 at *
  refine (R4.out _ t4s.rd).mono ?_
  rintro e w5 ⟨v3, rfl, ho3, hr5, hg5⟩
  obtain ⟨p3, m3, k3, rfl⟩ := own_form ho3
  have l4 := t4s.lt1
  have t5 := t4s.call hbw hg5 hr5
  have ho2t := own_grownX ho2s hg5 (by omega)
  have c50 : w5.cell? ⟨w.heap.size + 1, 0, none⟩ = some (.string (bs r.text.1)) := t5.cell1 0
  have c51 : w5.cell? ⟨w.heap.size + 1, 1, none⟩ = some (.string (bs r.text.2.text.1)) := t5.cell1 1
  have c52 : w5.cell? ⟨w.heap.size + 1, 2, none⟩ = some (.slice p2 m2 k2) := t5.cell1 2
  have c53 : w5.cell? ⟨w.heap.size + 1, 3, none⟩ = some (.slice none 0 0) := t5.cell1 3
  have f53 := t5.frozen1 3
  have d0 : w5.cell? ⟨w.heap.size, 0, none⟩ = some (.string ⟨#[]⟩) := t5.cell0 0
  have d1 : w5.cell? ⟨w.heap.size, 1, none⟩ = some (.string ⟨#[]⟩) := t5.cell0 1
  have d2 : w5.cell? ⟨w.heap.size, 2, none⟩ = some (.slice none 0 0) := t5.cell0 2
  have d3 : w5.cell? ⟨w.heap.size, 3, none⟩ = some (.slice none 0 0) := t5.cell0 3
  have g0 := t5.frozen0 0
  have g1 := t5.frozen0 1
  have g2 := t5.frozen0 2
  have g3 := t5.frozen0 3
  have hrd := t5.rd
  have hgz := t5.g
  have hz0 := t5.z0
  clear t4s t5 hg5 hr5 ho2s
  go_wp2_with (fail)
  have a2 := own_base (own_far (own_far (own_far (own_far (own_far ho2t l3 3 (.slice p3 m3 k3)) (show w.heap.size < _ by omega) 0 (.string (bs r.text.1))) (show w.heap.size < _ by omega) 1 (.string (bs r.text.2.text.1))) (show w.heap.size < _ by omega) 2 (.slice p2 m2 k2)) (show w.heap.size < _ by omega) 3 (.slice p3 m3 k3)) (show w.heap.size ≤ _ by omega)
  have a3 := own_base (own_far (own_far (own_far (own_far (own_far ho3 l4 3 (.slice p3 m3 k3)) (show w.heap.size < _ by omega) 0 (.string (bs r.text.1))) (show w.heap.size < _ by omega) 1 (.string (bs r.text.2.text.1))) (show w.heap.size < _ by omega) 2 (.slice p2 m2 k2)) (show w.heap.size < _ by omega) 3 (.slice p3 m3 k3)) (show w.heap.size ≤ _ by omega)
  refine bodyPost_ret (v := .agg #[.string (bs r.text.1), .string (bs r.text.2.text.1), .slice p2 m2 k2, .slice p3 m3 k3]) (by simp [results, Tryz.results215, go_sem, d0, d1, d2, d3]) rfl ⟨_, _, by rw [TF.out], by rw [TF.out]; exact a2, by rw [TF.out]; exact a3, ?_, ?_⟩
  · rw [TF.out]
    exact (heap_set_ne (by omega)).trans ((heap_set_ne (by omega)).trans ((heap_set_ne (by omega)).trans ((heap_set_ne (by omega)).trans ((heap_set_ne (by omega)).trans hrd))))
  · exact grown_set (grown_set (grown_set (grown_set (grown_set hgz (.inl (by simp)) _ _) (.inl (by simp)) _ _) (.inl (by simp)) _ _) (.inl (by simp)) _ _) (.inl (by simp)) _ _
end Go.Proofs.YtmlaolmaopjhbaaGreatDoor
/- PkRts, what a claim needs of it (prune.py). -/
namespace Go.Proofs.YtmlaolmaopjhbaaGreatDoor
open Go.RowKit
set_option linter.unusedVariables false
set_option maxRecDepth 100000
theorem target_info : (Tryz.prog.info? 154).map (fun i => (i.zero, i.size, i.bytes)) = some (some (.agg #[.string .empty, .string .empty, .slice none 0 0, .slice none 0 0]), 4, 80) := by kernel_rfl
def Txt (w : World) (B : Nat) (v : Value) (l : List (List UInt8)) : Prop := w.ownsRow B 9 1 v l.length (l.map fun t => Value.string (bs t))
def TCells (w : World) (B : Nat) : List TgL → List Value → Prop
  | [], xs => xs = []
  | t :: ts, xs => ∃ v2 v3 ys, xs = .string (bs t.n) :: .string (bs t.c) :: v2 :: v3 :: ys ∧ Txt w B v2 t.ds ∧ Txt w B v3 t.ss ∧ TCells w B ts ys
theorem TCells.keep {w w' : World} {B B' : Nat} (hk : ∀ v l, Txt w B v l → Txt w' B' v l) : ∀ {ts : List TgL} {xs : List Value}, TCells w B ts xs → TCells w' B' ts xs
  | [], _, h => h
  | _ :: _, _, ⟨v2, v3, ys, e, h2, h3, h4⟩ => ⟨v2, v3, ys, e, hk _ _ h2, hk _ _ h3, TCells.keep hk h4⟩
theorem TCells.snoc {w : World} {B : Nat} {t : TgL} {v2 v3 : Value} (h2 : Txt w B v2 t.ds) (h3 : Txt w B v3 t.ss) : ∀ {ts : List TgL} {xs : List Value}, TCells w B ts xs → TCells w B (ts ++ [t]) (xs ++ [.string (bs t.n), .string (bs t.c), v2, v3])
  | [], xs, h => by
    have h' : xs = [] := h
    subst h'
    exact ⟨v2, v3, [], rfl, h2, h3, rfl⟩
  | _ :: _, _, ⟨u2, u3, ys, e, k2, k3, k4⟩ => by
    subst e
    exact ⟨u2, u3, ys ++ [.string (bs t.n), .string (bs t.c), v2, v3], rfl, k2, k3, TCells.snoc h2 h3 k4⟩
theorem own_beside {w w' : World} {B B' : Nat} {e e' : TypeId} {size size' : Nat} {v u : Value} {n m : Nat} {xs ys : List Value} (h : w.ownsRow B e size v n xs) (ho : w.ownsRow B' e' size' u m ys) (hne : e ≠ e') (hk : ∀ k, k < w.heap.size → some k ≠ u.ownBlock → w'.heap[k]? = w.heap[k]?) : w'.ownsRow B e size v n xs := by
  refine ⟨h.1, ?_⟩
  rcases h.2 with h0 | ⟨g, cap, cur, hv, hg, hcc, h1, h2, h3, h4⟩
  · exact .inl h0
  · refine .inr ⟨g, cap, cur, hv, hg, (hk g (lt_heap hcc) (fun e2 => ?_)).trans hcc, h1, h2, h3, h4⟩
    rcases ho.2 with ⟨rfl, _⟩ | ⟨g', cap', cur', hv', _, hcc', _⟩
    · simp [Value.ownBlock] at e2
    · subst hv'
      have : g = g' := by simpa [Value.ownBlock] using e2
      subst this
      rw [hcc] at hcc'
      injection hcc' with hcc'
      injection hcc' with _ ht
      exact hne ht
def ReadTSays (l : List UInt8) (w : World) (e : Ending) (w' : World) : Prop :=
  ∃ v xs, e = .returned (.tuple #[v, .int .i64 (Pk.all takesT l).2]) ∧ w'.ownsRow w.heap.size 154 4 v (Pk.all takesT l).1.length xs ∧ TCells w' w.heap.size (Pk.all takesT l).1 xs ∧ Below w.heap.size w w'
theorem readT_none {l : List UInt8} {w w' : World} {ec : Nat} (h : Pk.all takesT l = ([], ec)) (hb : Below w.heap.size w w') : ReadTSays l w (.returned (.tuple #[.slice none 0 0, .int .i64 ec])) w' :=
  ⟨.slice none 0 0, [], by rw [h], by rw [h]; exact World.ownsRow_nil _ _ _ _, by rw [h]; rfl, hb⟩
set_option maxHeartbeats 8000000 in
theorem readT_any (l : List UInt8) (hl : l.length ≤ 500000000) (w : World) :
    Calls Tryz.prog 214 #[.string (bs l), .func (.func 215) #[] #[]] w (ReadTSays l w) := by
  have RD := Lib.hid (read_any l)
  have LL := rlist_lens ⟨l, 0⟩
  have AB := Lib.hid (@all_bad _ takesT l)
  have AO := Lib.hid (@all_ok _ takesT l)
  go_enter Tryz.func214, Tryz.ntmps214
  go_wp2_with (go_at_call 69; ((with_reducible refine (RD.out _).mono ?_); rintro e w1 ⟨rfl, hr1, hb1⟩))
  refine (rlist_any _ _ (by show l.length ≤ _; omega) _ hr1).mono ?_
  rintro e wl ⟨v, rfl, hown, hrl, hgl⟩
  generalize (Pk.Rd.list ⟨l, 0⟩).2 = r2 at *
  generalize (Pk.Rd.list ⟨l, 0⟩).1 = ts at *
  have hbl : Below w.heap.size w wl := hb1.grown hgl hb1.size (fun k hk => by cases hk; exact Nat.le_refl _)
  obtain ⟨A, m, c, rfl⟩ := own_form hown
  have hm : m = ts.length := by
    rcases hown.2 with ⟨h1, h2⟩ | ⟨g, cap, cur, h1, _⟩
    · injection h1; omega
    · injection h1
  subst hm
  have hst : Strs wl wl.heap.size A (ts.map bs) := by
    have := Reads.of_own hown
    unfold Strs
    rw [List.length_map, List.map_map]
    exact this
  have RE := Lib.hid (rend_any _ _ _ hrl)
  clear hown hgl hr1 hrl hb1
  by_cases hf : r2.fin = 0
  · have n1 : ((r2.fin : Int) != 0) = false := by simp; omega
    have AOH := Lib.hid (AO.out hf)
    clear hf AB AO
    go_wp2_with (go_at_call 71; ((with_reducible refine (RE.out).mono ?_); rintro e w' ⟨rfl, rfl⟩))
    clear n1
    go_loopw [9, 25] (fun v i wx => ∃ (k : Nat) (pre : List TgL) (xs : List Value), i = .int .i64 k ∧ k ≤ ts.length ∧ pre.length = k ∧ wx.ownsRow wl.heap.size 154 4 v k xs ∧ TCells wx wl.heap.size pre xs ∧ Below wl.heap.size wl wx ∧ Pk.each takesT ts = (Pk.each takesT (ts.drop k)).map (pre ++ ·)) (fun _ i _ => ts.length - (intOf i).toNat)
    case atStart => exact ⟨0, [], [], rfl, by omega, rfl, World.ownsRow_nil _ _ _ _, rfl, Below.refl _ _, by simp⟩
    case round =>
      obtain ⟨k, pre, xs, rfl, hk, hpk, hown, htc, hbx, hea⟩ := hrel
      rename World => wx
      by_cases hlt : k < ts.length
      · have hrx := hst.below hbx
        obtain ⟨ad, rfl, had, hc⟩ := hrx.at_ (k := k) (by simpa using hlt)
        have hc' : wx.cell? (ad.add k) = some (.string (bs ts[k])) := by simpa using hc
        have hkI : (k : Int) < (ts.length : Int) := by omega
        have hsl := LL.1 _ (List.getElem_mem hlt)
        rw [each_drop hlt] at hea
        have RDx := Lib.hid (read_any ts[k] wx)
        have TK := takeT_any wx.heap.size ⟨ts[k], 0⟩ (by show ts[k].length ≤ _; omega)
        clear hc hst
        generalize ts[k] = s at *
        go_wp2_with (go_at_call 69; ((with_reducible refine (RDx.out).mono ?_); rintro e w2 ⟨rfl, hr2, hb2⟩))
        refine (TK _ hr2).mono ?_
        rintro e w3 ⟨v2, v3, rfl, ho2, ho3, hr3, hg3⟩
        have hb3 : Below wl.heap.size wl w3 := (hbx.trans (hb2.mono hbx.size)).grown hg3 ((hbx.trans (hb2.mono hbx.size)).size) (fun g hg => by cases hg; exact hbx.size)
        have hownW := own_grown hown hb2 hg3 (Nat.le_refl _)
        have htcW : TCells w3 wl.heap.size pre xs := htc.keep (fun v l h => own_grown h hb2 hg3 (Nat.le_refl _))
        have hzb := Nat.le_trans hbx.size hb2.size
        clear hown htc hr2 hg3 hb2
        generalize takesT ⟨s, 0⟩ = tf at *
        obtain ⟨t, r3⟩ := tf
        simp only at hr3 hea ho2 ho3
        have t2 : Txt w3 wl.heap.size v2 t.ds := own_base ho2 hzb
        have t3 : Txt w3 wl.heap.size v3 t.ss := own_base ho3 hzb
        obtain ⟨p2, m2, k2, rfl⟩ := own_form ho2
        obtain ⟨p3, m3, k3, rfl⟩ := own_form ho3
        clear ho2 ho3
        by_cases hf3 : r3.fin = 0
        · have n3 : ((r3.fin : Int) != 0) = false := by simp; omega
          rw [if_neg (by simpa using hf3)] at hea
          have HEA : Hid (Pk.each takesT ts = (Pk.each takesT (ts.drop (k + 1))).map ((pre ++ [t]) ++ ·)) := Lib.hid (by rw [hea]; cases Pk.each takesT (ts.drop (k + 1)) <;> simp)
          have RE3 := fun o => rend_any wx.heap.size r3 (w3.alloc o) (hr3.later ((Below.refl _ _).alloc (Nat.le_refl _) o))
          have RE3H := Lib.hid RE3
          have hk9 : k + 1 ≤ 1000000000 := by omega
          have hbA : ∀ o, Below wl.heap.size wl (w3.alloc o) := fun o => hb3.alloc hb3.size o
          have hownA := fun o => hownW.alloc o
          have HTC := Lib.hid (TCells.snoc t2 t3 htcW)
          have HOW := Lib.hid hownW
          clear hf3 hea hr3 RE3 hownW htcW t2 t3
          have HPK := Lib.hid hpk
          clear hpk
          go_wp2_with (first | (go_at_call 71; ((with_reducible refine (RE3H.out _).mono ?_); rintro e w' ⟨rfl, rfl⟩)) | (at_builtin; refine append_el rfl (.tmp 37) (.tmp 39) 27 rfl wl.heap.size 154 _ 4 80 Tryz.underlying27 target_info rfl (by decide) (by decide) _ k _ rfl (hownA _) [.string (bs t.n), .string (bs t.c), .slice p2 m2 k2, .slice p3 m3 k3] _ rfl rfl (by simp [Value.oneCell']) _ (by simp) rfl hk9 (hbA _).size (hbA _) ?_; intro v' w4 hown4 hb4 hoth4))
          have HKT : ∀ v l, Txt w3 wl.heap.size v l → Txt w4 wl.heap.size v l := fun v l h => own_beside (own_later h ((Below.refl _ _).alloc (Nat.le_refl _) _)) (HOW.out.alloc _) (by decide) hoth4
          have HT4 := Lib.hid (HTC.out.keep HKT)
          go_roundw
          case rel => exact ⟨k + 1, pre ++ [t], _, by go_num, by omega, by simp [HPK.out], hown4, HT4.out, hb4, HEA.out⟩
          case measure => simp [intOf]; omega
        · have n3 : ((r3.fin : Int) != 0) = true := by simp; omega
          rw [if_pos (by simpa using hf3)] at hea
          have AH : Hid (Pk.all takesT l = ([], 11)) := Lib.hid (by rw [AOH.out, hea]; rfl)
          have RE3 := fun o => rend_any wx.heap.size r3 (w3.alloc o) (hr3.later ((Below.refl _ _).alloc (Nat.le_refl _) o))
          have RE3H := Lib.hid RE3
          clear hf3 hea hr3 RE3 hownW htcW t2 t3
          have hfin : ∀ o, Below w.heap.size w (w3.alloc o) := fun o => (hbl.trans (hb3.mono hbl.size)).alloc (hbl.trans (hb3.mono hbl.size)).size o
          go_wp2_with (go_at_call 71; ((with_reducible refine (RE3H.out _).mono ?_); rintro e w' ⟨rfl, rfl⟩))
          go_ret2
          exact readT_none AH.out (hfin _)
      · obtain rfl : k = ts.length := by omega
        rw [List.drop_length, Pk.each] at hea
        have AH : Hid (Pk.all takesT l = (pre, 0)) := Lib.hid (by rw [AOH.out, hea]; simp)
        have hfin : Below w.heap.size w wx := hbl.trans (hbx.mono hbl.size)
        have hownF := own_base hown hbl.size
        have htcF : TCells wx w.heap.size pre xs := htc.keep (fun v l h => own_base h hbl.size)
        rw [← hpk] at hownF
        obtain ⟨p, m, c', rfl⟩ := own_form hown
        clear hown hea hpk htc
        go_wp2_with (fail)
        go_ret2
        exact ⟨_, _, ret_val (by rw [AH.out]; rfl), by rw [AH.out]; exact hownF, by rw [AH.out]; exact htcF, hfin⟩
  · have n1 : ((r2.fin : Int) != 0) = true := by simp; omega
    have ABH := Lib.hid (AB.out hf)
    clear hf AB AO
    go_wp2_with (go_at_call 71; ((with_reducible refine (RE.out).mono ?_); rintro e w' ⟨rfl, rfl⟩))
    go_ret2
    exact readT_none ABH.out hbl
theorem readGraph_any (l : List UInt8) (hl : l.length ≤ 500000000) (w : World) :
    Calls Tryz.prog 184 #[.string (bs l)] w (ReadTSays l w) := by
  have RF := Lib.hid (readT_any l hl w)
  go_enter Tryz.func184, Tryz.ntmps184
  go_wp2_with (fail)
  refine (RF.out).mono ?_
  rintro e w1 ⟨v, xs, rfl, hown, htc, hb1⟩
  go_wp2_with (fail)
  go_ret2
  exact ⟨v, xs, rfl, hown, htc, hb1⟩
end Go.Proofs.YtmlaolmaopjhbaaGreatDoor
/- TgRow, what a claim needs of it (prune.py). -/
namespace Go.Proofs.YtmlaolmaopjhbaaGreatDoor
open Go.RowKit
set_option linter.unusedVariables false
set_option maxRecDepth 100000
def mkTg (t : TgL) : Tg := ⟨bs t.n, bs t.c, t.ds.map bs, t.ss.map bs⟩
theorem strs_of_txt {w : World} {B : Nat} {v : Value} {l : List (List UInt8)} (h : Txt w B v l) : ∃ A c, v = .slice A l.length c ∧ Strs w w.heap.size A (l.map bs) := by
  have h' : w.ownsRow B 9 1 v l.length (l.map fun t => Value.string (bs t)) := h
  obtain ⟨A, m, c, rfl⟩ := own_form h'
  have hm : m = l.length := by
    rcases h'.2 with ⟨h1, h2⟩ | ⟨g, cap, cur, h1, _⟩
    · injection h1; omega
    · injection h1
  subst hm
  refine ⟨A, c, rfl, ?_⟩
  have := Reads.of_own h'
  unfold Strs
  rw [List.length_map, List.map_map]
  exact this
theorem tcells_get {w : World} {B : Nat} : ∀ {l : List TgL} {xs : List Value}, TCells w B l xs → ∀ (k : Nat) (hk : k < l.length), ∃ v2 v3, xs[k * 4]? = some (.string (bs l[k].n)) ∧ xs[k * 4 + 1]? = some (.string (bs l[k].c)) ∧ xs[k * 4 + 2]? = some v2 ∧ xs[k * 4 + 3]? = some v3 ∧ Txt w B v2 l[k].ds ∧ Txt w B v3 l[k].ss
  | [], _, _, k, hk => absurd hk (by simp)
  | t :: l, _, ⟨v2, v3, ys, e, h2, h3, h4⟩, 0, hk => ⟨v2, v3, by rw [e]; rfl, by rw [e]; rfl, by rw [e]; rfl, by rw [e]; rfl, h2, h3⟩
  | t :: l, _, ⟨v2, v3, ys, e, h2, h3, h4⟩, k + 1, hk => by
    obtain ⟨u2, u3, a, b, c, d, f, g⟩ := tcells_get h4 k (by simpa using hk)
    subst e
    refine ⟨u2, u3, ?_, ?_, ?_, ?_, f, g⟩
    · rw [show (k + 1) * 4 = k * 4 + 4 by omega]; exact a
    · rw [show (k + 1) * 4 + 1 = (k * 4 + 1) + 4 by omega]; exact b
    · rw [show (k + 1) * 4 + 2 = (k * 4 + 2) + 4 by omega]; exact c
    · rw [show (k + 1) * 4 + 3 = (k * 4 + 3) + 4 by omega]; exact d
theorem add_add (ad : Addr) (n i : Nat) : (ad.add n).add i = ad.add (n + i) := by
  unfold Addr.add
  by_cases hn : n = 0
  · subst hn; simp
  · by_cases hi : i = 0
    · subst hi; simp [hn]
    · simp [hn, hi, Nat.add_assoc]
theorem tgs_of_own {w : World} {B B' : Nat} {A : Option Addr} {m c : Nat} {l : List TgL} {xs : List Value} (h : w.ownsRow B 154 4 (.slice A m c) l.length xs) (ht : TCells w B' l xs) : m = l.length ∧ Tgs w w.heap.size A (l.map mkTg) := by
  have hm : m = l.length := by
    rcases h.2 with ⟨h1, h2⟩ | ⟨g, cap, cur, h1, _⟩
    · injection h1; omega
    · injection h1
  subst hm
  have hr := Reads.of_own h
  refine ⟨rfl, fun hl => ?_⟩
  obtain ⟨ad, e, hb, hc⟩ := hr.2 (by simpa using hl)
  refine ⟨ad, e, hb, fun k hk => ?_⟩
  have hk' : k < l.length := by simpa using hk
  obtain ⟨v2, v3, g0, g1, g2, g3, t2, t3⟩ := tcells_get ht k hk'
  obtain ⟨A2, c2, rfl, s2⟩ := strs_of_txt t2
  obtain ⟨A3, c3, rfl, s3⟩ := strs_of_txt t3
  rw [List.getElem_map]
  refine ⟨A2, c2, A3, c3, hc _ _ g0, ?_, ?_, ?_, s2, s3⟩
  · rw [add_add]; exact hc _ _ g1
  · rw [add_add]
    have := hc _ _ g2
    simpa [mkTg] using this
  · rw [add_add]
    have := hc _ _ g3
    simpa [mkTg] using this
end Go.Proofs.YtmlaolmaopjhbaaGreatDoor
