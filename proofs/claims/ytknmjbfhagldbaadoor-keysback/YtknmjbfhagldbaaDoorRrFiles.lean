/- The contract of the reference's ReadFiles. -/
import Derived.Test.YtknmjbfhagldbaaDoorRrList
namespace Go.Proofs.YtknmjbfhagldbaaDoor
open Go.RowKit
set_option linter.unusedVariables false
set_option maxRecDepth 100000
theorem listall_bad {l : List UInt8} (h : (ListAll l).2 ≠ 0) : Pk.all takesF l = ([], (ListAll l).2) := by
  unfold ListAll at h ⊢
  by_cases hf : (Pk.Rd.list ⟨l, 0⟩).2.fin ≠ 0
  · rw [if_pos hf] at h ⊢
    exact all_bad hf
  · rw [if_neg hf] at h; exact absurd rfl h
theorem listall_ok {l : List UInt8} (h : (ListAll l).2 = 0) : Pk.all takesF l = match Pk.each takesF (ListAll l).1 with | none => ([], 11) | some a => (a, 0) := by
  unfold ListAll at h ⊢
  by_cases hf : (Pk.Rd.list ⟨l, 0⟩).2.fin ≠ 0
  · rw [if_pos hf] at h; exact absurd h hf
  · rw [if_neg hf]
    have := all_ok (takes := takesF) (l := l) (Classical.byContradiction hf)
    rw [this]
    cases Pk.each _ (Pk.Rd.list ⟨l, 0⟩).1 <;> rfl
theorem listall_lens (l : List UInt8) : (∀ t ∈ (ListAll l).1, t.length ≤ l.length) ∧ (ListAll l).1.length ≤ l.length := by
  unfold ListAll
  split
  · exact ⟨fun t ht => by simp at ht, by simp⟩
  · exact rlist_lens ⟨l, 0⟩
set_option maxHeartbeats 4000000 in
theorem rreadF_any (l : List UInt8) (hl : l.length ≤ 500000000) (w : World) :
    Calls Tryd.prog 17 #[.string (bs l)] w (ReadFSays l w) := by
  have RL := Lib.hid (rlistall_any l hl w)
  have LL := listall_lens l
  have AB := Lib.hid (@listall_bad l)
  have AO := Lib.hid (@listall_ok l)
  go_enter Tryd.func17, Tryd.ntmps17
  go_wp2_with (fail)
  refine (RL.out).mono ?_
  rintro e wl ⟨v, rfl, hown, hbl⟩
  generalize (ListAll l).2 = ec at *
  generalize (ListAll l).1 = ts at *
  obtain ⟨A, m, c, rfl⟩ := own_form hown
  have hm : m = ts.length := by
    rcases hown.2 with ⟨h1, h2⟩ | ⟨g, cap, cur, h1, _⟩
    · injection h1; omega
    · injection h1
  subst hm
  have hst : Strs wl wl.heap.size A (ts.map bs) := by
    have := Reads.of_own hown
    unfold Strs
    rw [List.length_map, List.map_map]
    exact this
  clear hown
  by_cases hf : ec = 0
  · have AOH := Lib.hid (AO.out hf)
    have n1 : ((ec : Int) != 0) = false := by simp; omega
    clear hf AB AO
    go_wp2_with (fail)
    clear n1
    go_loopw [6, 7] (fun v i wx => ∃ (k : Nat) (pre : List (List UInt8 × List UInt8)), i = .int .i64 k ∧ k ≤ ts.length ∧ pre.length = k ∧ wx.ownsRow wl.heap.size 43 2 v k (filesC pre) ∧ Below wl.heap.size wl wx ∧ Pk.each takesF ts = (Pk.each takesF (ts.drop k)).map (pre ++ ·)) (fun _ i _ => ts.length - (intOf i).toNat)
    case atStart => exact ⟨0, [], rfl, by omega, rfl, by simpa [filesC] using World.ownsRow_nil _ _ _ _, Below.refl _ _, by simp⟩
    case round =>
      obtain ⟨k, pre, rfl, hk, hpk, hown, hbx, hea⟩ := hrel
      rename World => wx
      by_cases hlt : k < ts.length
      · have hrx := hst.below hbx
        obtain ⟨ad, rfl, had, hc⟩ := hrx.at_ (k := k) (by simpa using hlt)
        have hc' : wx.cell? (ad.add k) = some (.string (bs ts[k])) := by simpa using hc
        have hkI : (k : Int) < (ts.length : Int) := by omega
        have hsl := LL.1 _ (List.getElem_mem hlt)
        rw [each_drop hlt] at hea
        have hs0 : ts[k].length ≤ 1000000000 := by omega
        clear hc hst
        generalize ts[k] = s at *
        have hs1 : (Pk.Rd.text ⟨s, 0⟩).2.rest.length ≤ 1000000000 := Nat.le_trans (rtext_rest _) hs0
        have R1 := Lib.hid (fun W hW => rrtext_any wx.heap.size ⟨s, 0⟩ hs0 W hW)
        have R2 := Lib.hid (fun W hW => rrtext_any wx.heap.size (Pk.Rd.text ⟨s, 0⟩).2 hs1 W hW)
        have TFE : takesF ⟨s, 0⟩ = (((Pk.Rd.text ⟨s, 0⟩).1, (Pk.Rd.text ⟨s, 0⟩).2.text.1), (Pk.Rd.text ⟨s, 0⟩).2.text.2) := rfl
        rw [TFE] at hea
        clear TFE hs1
        generalize (Pk.Rd.text ⟨s, 0⟩).2 = r1 at *
        generalize (Pk.Rd.text ⟨s, 0⟩).1 = p at *
        generalize r1.text.1 = d at *
        generalize r1.text.2 = r3 at *
        go_wp2_with (fail)
        obtain ⟨W1, eW⟩ : ∃ W1, W1 = (wx.alloc (.cells #[.string (bs s), .int .i64 0] 62)).alloc (.cells #[.string ⟨#[]⟩, .string ⟨#[]⟩] 43) := ⟨_, rfl⟩
        have hb0 : Below wx.heap.size wx W1 := by rw [eW]; exact ((Below.refl _ _).alloc (Nat.le_refl _) _).alloc (by simp) _
        have hR : RqAt W1 wx.heap.size ⟨s, 0⟩ := by rw [eW]; exact heap_alloc_lt (heap_alloc_new wx _)
        have q1 : W1.heap[wx.heap.size + 1]? = some (.cells #[.string ⟨#[]⟩, .string ⟨#[]⟩] 43 (0, 0)) := by
          rw [eW]
          have := heap_alloc_new (wx.alloc (.cells #[.string (bs s), .int .i64 0] 62)) (.cells #[.string ⟨#[]⟩, .string ⟨#[]⟩] 43)
          simpa using this
        rw [← eW]
        clear eW
        refine (R1.out _ hR).mono ?_
        rintro e w2 ⟨rfl, hr2, hg2⟩
        have z1 : W1.heap.size > wx.heap.size + 1 := lt_heap q1
        have q1' := (hg2.block _ (lt_heap q1) (fun e => by have := Option.some.inj e; omega)).trans q1
        have c10 : w2.cell? ⟨wx.heap.size + 1, 0, none⟩ = some (.string ⟨#[]⟩) := (cell_heap q1' 0).trans rfl
        have f10 : w2.frozen? ⟨wx.heap.size + 1, 0, none⟩ = false := frozen_heap q1' 0
        go_wp2_with (fail)
        have hr2' : RqAt (w2.setCell ⟨wx.heap.size + 1, 0, none⟩ (.string (bs p))) wx.heap.size r1 := (heap_set_ne (show wx.heap.size + 1 ≠ wx.heap.size by omega)).trans hr2
        have q1w := heap_set (off := 0) (v := .string (bs p)) q1'
        have hgw : wx.grownBy (w2.setCell ⟨wx.heap.size + 1, 0, none⟩ (.string (bs p))) (some wx.heap.size) := grown_set (grown_trans (grown_of_below hb0 _) hg2) (.inl (by simp)) _ _
        clear q1 q1' c10 f10
        generalize w2.setCell ⟨wx.heap.size + 1, 0, none⟩ (.string (bs p)) = W2 at *
        refine (R2.out _ hr2').mono ?_
        rintro e w3 ⟨rfl, hr3, hg3⟩
        have q1' := (hg3.block _ (lt_heap q1w) (fun e => by have := Option.some.inj e; omega)).trans q1w
        have q1z := heap_set (off := 1) (v := .string (bs d)) q1'
        have c11 : w3.cell? ⟨wx.heap.size + 1, 1, none⟩ = some (.string ⟨#[]⟩) := (cell_heap q1' 1).trans rfl
        have f11 : w3.frozen? ⟨wx.heap.size + 1, 1, none⟩ = false := frozen_heap q1' 1
        have hgz : wx.grownBy (w3.setCell ⟨wx.heap.size + 1, 1, none⟩ (.string (bs d))) (some wx.heap.size) := grown_set (grown_trans hgw hg3) (.inl (by simp)) _ _
        have hr3' : RqAt (w3.setCell ⟨wx.heap.size + 1, 1, none⟩ (.string (bs d))) wx.heap.size r3 := (heap_set_ne (show wx.heap.size + 1 ≠ wx.heap.size by omega)).trans hr3
        have hb3 : Below wl.heap.size wl (w3.setCell ⟨wx.heap.size + 1, 1, none⟩ (.string (bs d))) := hbx.grown hgz hbx.size (fun g hg => by cases hg; exact hbx.size)
        have hownW := own_grown hown (Below.refl _ _) hgz (Nat.le_refl _)
        have k10 : (w3.setCell ⟨wx.heap.size + 1, 1, none⟩ (.string (bs d))).cell? ⟨wx.heap.size + 1, 0, none⟩ = some (.string (bs p)) := (cell_heap q1z 0).trans rfl
        have k11 : (w3.setCell ⟨wx.heap.size + 1, 1, none⟩ (.string (bs d))).cell? ⟨wx.heap.size + 1, 1, none⟩ = some (.string (bs d)) := (cell_heap q1z 1).trans rfl
        have hB3 := hb3.size
        clear hown hr2 hr2' hg2 hg3 hr3 hgw q1w q1'
        go_wp2_with (fail)
        generalize w3.setCell ⟨wx.heap.size + 1, 1, none⟩ (.string (bs d)) = W3 at *
        have RE3 := Lib.hid (rrend_any _ _ _ hr3')
        by_cases hf3 : r3.fin = 0
        · have n3 : ((r3.fin : Int) != 0) = false := by simp; omega
          rw [if_neg (by simpa using hf3)] at hea
          have HEA : Hid (Pk.each takesF ts = (Pk.each takesF (ts.drop (k + 1))).map ((pre ++ [(p, d)]) ++ ·)) := Lib.hid (by rw [hea]; cases Pk.each takesF (ts.drop (k + 1)) <;> simp)
          have FC : Hid (filesC (pre ++ [(p, d)]) = filesC pre ++ [.string (bs p), .string (bs d)]) := Lib.hid (by simp [filesC])
          have hk9 : k + 1 ≤ 1000000000 := by omega
          have HPK := Lib.hid hpk
          clear hf3 hea hr3' hpk
          refine (RE3.out).mono ?_
          rintro e w' ⟨rfl, rfl⟩
          go_wp2_with (at_builtin; refine append_el rfl (.tmp 39) (.tmp 41) 23 rfl wl.heap.size 43 _ 2 32 Tryd.underlying23 file_info rfl (by decide) (by decide) _ k _ rfl hownW [.string (bs p), .string (bs d)] _ rfl rfl (by simp [Value.oneCell']) _ rfl rfl hk9 hB3 hb3 ?_; intro v' w4 hown4 hb4 _)
          go_roundw
          case rel =>
            refine ⟨k + 1, pre ++ [(p, d)], by go_num, by omega, by simp [HPK.out], ?_, hb4, HEA.out⟩
            rw [FC.out]
            exact hown4
          case measure => simp [intOf]; omega
        · have n3 : ((r3.fin : Int) != 0) = true := by simp; omega
          rw [if_pos (by simpa using hf3)] at hea
          have AH : Hid (Pk.all takesF l = ([], 11)) := Lib.hid (by rw [AOH.out, hea]; rfl)
          have hfin := hbl.trans (hb3.mono hbl.size)
          clear hf3 hea hr3' hownW
          refine (RE3.out).mono ?_
          rintro e w' ⟨rfl, rfl⟩
          go_wp2_with (fail)
          go_ret2
          exact ⟨_, ret_val (by rw [AH.out]; rfl), by rw [AH.out]; simpa [filesC] using World.ownsRow_nil _ _ _ _, hfin⟩
      · obtain rfl : k = ts.length := by omega
        rw [List.drop_length, Pk.each] at hea
        have AH : Hid (Pk.all takesF l = (pre, 0)) := Lib.hid (by rw [AOH.out, hea]; simp)
        have hfin : Below w.heap.size w wx := hbl.trans (hbx.mono hbl.size)
        have hownF := own_base hown hbl.size
        rw [← hpk] at hownF
        obtain ⟨p, m, c', rfl⟩ := own_form hown
        clear hown hea hpk
        go_wp2_with (fail)
        go_ret2
        exact ⟨_, ret_val (by rw [AH.out]; rfl), by rw [AH.out]; exact hownF, hfin⟩
  · have ABH := Lib.hid (AB.out hf)
    have n1 : ((ec : Int) != 0) = true := by simp; omega
    clear hf AB AO
    go_wp2_with (fail)
    go_ret2
    exact ⟨_, ret_val (by rw [ABH.out]; rfl), by rw [ABH.out]; simpa [filesC] using World.ownsRow_nil _ _ _ _, hbl⟩
end Go.Proofs.YtknmjbfhagldbaaDoor
