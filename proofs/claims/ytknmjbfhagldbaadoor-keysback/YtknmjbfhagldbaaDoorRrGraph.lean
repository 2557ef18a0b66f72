/- The contract of the reference's ReadGraph. -/
import Derived.Test.YtknmjbfhagldbaaDoorRrList
import Derived.Test.YtknmjbfhagldbaaDoorPkRts
namespace Go.Proofs.YtknmjbfhagldbaaDoor
open Go.RowKit
set_option linter.unusedVariables false
set_option maxRecDepth 100000
theorem listall_badG {α : Type} {takes : Pk.Rd → α × Pk.Rd} {l : List UInt8} (h : (ListAll l).2 ≠ 0) : Pk.all takes l = ([], (ListAll l).2) := by
  unfold ListAll at h ⊢
  by_cases hf : (Pk.Rd.list ⟨l, 0⟩).2.fin ≠ 0
  · rw [if_pos hf] at h ⊢
    exact all_bad hf
  · rw [if_neg hf] at h; exact absurd rfl h
theorem listall_okG {α : Type} {takes : Pk.Rd → α × Pk.Rd} {l : List UInt8} (h : (ListAll l).2 = 0) : Pk.all takes l = match Pk.each takes (ListAll l).1 with | none => ([], 11) | some a => (a, 0) := by
  unfold ListAll at h ⊢
  by_cases hf : (Pk.Rd.list ⟨l, 0⟩).2.fin ≠ 0
  · rw [if_pos hf] at h; exact absurd h hf
  · rw [if_neg hf]
    have := all_ok (takes := takes) (l := l) (Classical.byContradiction hf)
    rw [this]
    cases Pk.each _ (Pk.Rd.list ⟨l, 0⟩).1 <;> rfl
theorem listall_lensG (l : List UInt8) : (∀ t ∈ (ListAll l).1, t.length ≤ l.length) ∧ (ListAll l).1.length ≤ l.length := by
  unfold ListAll
  split
  · exact ⟨fun t ht => by simp at ht, by simp⟩
  · exact rlist_lens ⟨l, 0⟩
/-- the state in which the reference reads a target: the reader's block, the target's behind it -/
structure QS (w W : World) (b : Nat) (r : Pk.Rd) (c1 : Array Value) : Prop where
  rd : RqAt W b r
  g : w.grownBy W (some b)
  z1 : W.heap[b + 1]? = some (.cells c1 46 (0, 0))
namespace QS
variable {w W W' : World} {b : Nat} {r r' : Pk.Rd} {c1 : Array Value}
theorem call (h : QS w W b r c1) (k : W.grownBy W' (some b)) (hr : RqAt W' b r') : QS w W' b r' c1 :=
  ⟨hr, grown_trans h.g k, (k.block _ (lt_heap h.z1) (fun e => by have := Option.some.inj e; omega)).trans h.z1⟩
theorem set_ (h : QS w W b r c1) (hb : w.heap.size ≤ b) (i : Nat) (v : Value) : QS w (W.setCell ⟨b + 1, i, none⟩ v) b r (c1.setIfInBounds i v) :=
  ⟨(heap_set_ne (by omega)).trans h.rd, grown_set h.g (.inl (show w.heap.size ≤ b + 1 by omega)) _ _, heap_set h.z1⟩
theorem lt1 (h : QS w W b r c1) : b + 1 < W.heap.size := lt_heap h.z1
theorem cell1 (h : QS w W b r c1) (i : Nat) : W.cell? ⟨b + 1, i, none⟩ = c1[i]? := cell_heap h.z1 i
theorem frozen1 (h : QS w W b r c1) (i : Nat) : W.frozen? ⟨b + 1, i, none⟩ = false := frozen_heap h.z1 i
end QS
set_option maxHeartbeats 8000000 in
theorem rreadT_any (l : List UInt8) (hl : l.length ≤ 500000000) (w : World) :
    Calls Tryd.prog 20 #[.string (bs l)] w (ReadTSays l w) := by
  have RL := Lib.hid (rlistall_any l hl w)
  have LL := listall_lensG l
  have AB := Lib.hid (@listall_badG _ takesT l)
  have AO := Lib.hid (@listall_okG _ takesT l)
  go_enter Tryd.func20, Tryd.ntmps20
  go_wp2_with (fail)
  refine (RL.out).mono ?_
  rintro e wl ⟨v, rfl, hown, hbl⟩
  generalize (ListAll l).2 = ec at *
  generalize (ListAll l).1 = ts at *
  obtain ⟨A, m, c, rfl⟩ := own_form hown
  have hm : m = ts.length := by
    rcases hown.2 with ⟨h1, h2⟩ | ⟨g, cap, cur, h1, _⟩
    · injection h1; omega
    · injection h1
  subst hm
  have hst : Strs wl wl.heap.size A (ts.map bs) := by
    have := Reads.of_own hown
    unfold Strs
    rw [List.length_map, List.map_map]
    exact this
  clear hown
  by_cases hf : ec = 0
  · have AOH := Lib.hid (AO.out hf)
    have n1 : ((ec : Int) != 0) = false := by simp; omega
    clear hf AB AO
    go_wp2_with (fail)
    clear n1
    go_loopw [6, 7] (fun v i wx => ∃ (k : Nat) (pre : List TgL) (xs : List Value), i = .int .i64 k ∧ k ≤ ts.length ∧ pre.length = k ∧ wx.ownsRow wl.heap.size 46 4 v k xs ∧ TCells wx wl.heap.size pre xs ∧ Below wl.heap.size wl wx ∧ Pk.each takesT ts = (Pk.each takesT (ts.drop k)).map (pre ++ ·)) (fun _ i _ => ts.length - (intOf i).toNat)
    case atStart => exact ⟨0, [], [], rfl, by omega, rfl, World.ownsRow_nil _ _ _ _, rfl, Below.refl _ _, by simp⟩
    case round =>
      obtain ⟨k, pre, xs, rfl, hk, hpk, hown, htc, hbx, hea⟩ := hrel
      rename World => wx
      by_cases hlt : k < ts.length
      · have hrx := hst.below hbx
        obtain ⟨ad, rfl, had, hc⟩ := hrx.at_ (k := k) (by simpa using hlt)
        have hc' : wx.cell? (ad.add k) = some (.string (bs ts[k])) := by simpa using hc
        have hkI : (k : Int) < (ts.length : Int) := by omega
        have hsl := LL.1 _ (List.getElem_mem hlt)
        rw [each_drop hlt] at hea
        have hs0 : ts[k].length ≤ 1000000000 := by omega
        clear hc hst
        generalize ts[k] = s at *
        have hs1 : (Pk.Rd.text ⟨s, 0⟩).2.rest.length ≤ 1000000000 := Nat.le_trans (rtext_rest _) hs0
        have hs2 : (Pk.Rd.text ⟨s, 0⟩).2.text.2.rest.length ≤ 1000000000 := Nat.le_trans (rtext_rest _) hs1
        have hs3 : (Pk.Rd.text ⟨s, 0⟩).2.text.2.list.2.rest.length ≤ 1000000000 := Nat.le_trans (rlist_rest _) hs2
        have R1 := Lib.hid (fun W hW => rrtext_any wx.heap.size ⟨s, 0⟩ hs0 W hW)
        have R2 := Lib.hid (fun W hW => rrtext_any wx.heap.size (Pk.Rd.text ⟨s, 0⟩).2 hs1 W hW)
        have R3 := Lib.hid (fun W hW => rrlist_any wx.heap.size (Pk.Rd.text ⟨s, 0⟩).2.text.2 hs2 W hW)
        have R4 := Lib.hid (fun W hW => rrlist_any wx.heap.size (Pk.Rd.text ⟨s, 0⟩).2.text.2.list.2 hs3 W hW)
        have TFE : takesT ⟨s, 0⟩ = (⟨(Pk.Rd.text ⟨s, 0⟩).1, (Pk.Rd.text ⟨s, 0⟩).2.text.1, (Pk.Rd.text ⟨s, 0⟩).2.text.2.list.1, (Pk.Rd.text ⟨s, 0⟩).2.text.2.list.2.list.1⟩, (Pk.Rd.text ⟨s, 0⟩).2.text.2.list.2.list.2) := rfl
        rw [TFE] at hea
        clear TFE hs1 hs2 hs3
        unfold ListSaysR at R3 R4
        generalize (Pk.Rd.text ⟨s, 0⟩).2 = r1 at *
        generalize (Pk.Rd.text ⟨s, 0⟩).1 = n at *
        generalize r1.text.1 = cm at *
        generalize r1.text.2 = r2 at *
        generalize r2.list.1 = ds at *
        generalize r2.list.2 = r3 at *
        generalize r3.list.1 = ss at *
        generalize r3.list.2 = r4 at *
        go_wp2_with (fail)
        obtain ⟨W1, eW⟩ : ∃ W1, W1 = (wx.alloc (.cells #[.string (bs s), .int .i64 0] 62)).alloc (.cells #[.string ⟨#[]⟩, .string ⟨#[]⟩, .slice none 0 0, .slice none 0 0] 46) := ⟨_, rfl⟩
        have hb0 : Below wx.heap.size wx W1 := by rw [eW]; exact ((Below.refl _ _).alloc (Nat.le_refl _) _).alloc (by simp) _
        have t1 : QS wx W1 wx.heap.size ⟨s, 0⟩ zT := ⟨by rw [eW]; exact heap_alloc_lt (heap_alloc_new wx _), grown_of_below hb0 _, by
          rw [eW]
          have h9 := heap_alloc_new (wx.alloc (.cells #[.string (bs s), .int .i64 0] 62)) (.cells zT 46)
          rw [World.size_alloc] at h9
          exact h9⟩
        rw [← eW]
        clear eW hb0
        refine (R1.out _ t1.rd).mono ?_
        rintro e w2 ⟨rfl, hr2, hg2⟩
        have t2 := t1.call hg2 hr2
        have c2 : w2.cell? ⟨wx.heap.size + 1, 0, none⟩ = some (.string ⟨#[]⟩) := t2.cell1 0
        have f2 := t2.frozen1 0
        go_wp2_with (fail)
        have t2s := t2.set_ (Nat.le_refl _) 0 (.string (bs n))
        clear t1 t2 c2 f2 hg2 hr2
        generalize w2.setCell ⟨wx.heap.size + 1, 0, none⟩ (.string (bs n)) = W2 at *
        refine (R2.out _ t2s.rd).mono ?_
        rintro e w3 ⟨rfl, hr3, hg3⟩
        have t3 := t2s.call hg3 hr3
        have c3 : w3.cell? ⟨wx.heap.size + 1, 1, none⟩ = some (.string ⟨#[]⟩) := t3.cell1 1
        have f3 := t3.frozen1 1
        go_wp2_with (fail)
        have t3s := t3.set_ (Nat.le_refl _) 1 (.string (bs cm))
        clear t2s t3 c3 f3 hg3 hr3
        generalize w3.setCell ⟨wx.heap.size + 1, 1, none⟩ (.string (bs cm)) = W3 at *
        refine (R3.out _ t3s.rd).mono ?_
        rintro e w4 ⟨v2, rfl, ho2, hr4, hg4⟩
        obtain ⟨p2, m2, k2, rfl⟩ := own_form ho2
        have l3 := t3s.lt1
        have t4 := t3s.call hg4 hr4
        have c4 : w4.cell? ⟨wx.heap.size + 1, 2, none⟩ = some (.slice none 0 0) := t4.cell1 2
        have f4 := t4.frozen1 2
        go_wp2_with (fail)
        have t4s := t4.set_ (Nat.le_refl _) 2 (.slice p2 m2 k2)
        have ho2s := own_far ho2 l3 2 (.slice p2 m2 k2)
        clear t3s t4 c4 f4 hg4 hr4 ho2
        generalize w4.setCell ⟨wx.heap.size + 1, 2, none⟩ (.slice p2 m2 k2) = W4 at *
        refine (R4.out _ t4s.rd).mono ?_
        rintro e w5 ⟨v3, rfl, ho3, hr5, hg5⟩
        obtain ⟨p3, m3, k3, rfl⟩ := own_form ho3
        have l4 := t4s.lt1
        have t5 := t4s.call hg5 hr5
        have ho2t := own_grownX ho2s hg5 (by omega)
        have c53 : w5.cell? ⟨wx.heap.size + 1, 3, none⟩ = some (.slice none 0 0) := t5.cell1 3
        have f53 := t5.frozen1 3
        go_wp2_with (fail)
        have t5s := t5.set_ (Nat.le_refl _) 3 (.slice p3 m3 k3)
        have ho2u := own_far ho2t l3 3 (.slice p3 m3 k3)
        have ho3u := own_far ho3 l4 3 (.slice p3 m3 k3)
        clear t4s t5 c53 f53 hg5 hr5 ho2s ho2t ho3
        generalize w5.setCell ⟨wx.heap.size + 1, 3, none⟩ (.slice p3 m3 k3) = W5 at *
        have k50 : W5.cell? ⟨wx.heap.size + 1, 0, none⟩ = some (.string (bs n)) := t5s.cell1 0
        have k51 : W5.cell? ⟨wx.heap.size + 1, 1, none⟩ = some (.string (bs cm)) := t5s.cell1 1
        have k52 : W5.cell? ⟨wx.heap.size + 1, 2, none⟩ = some (.slice p2 m2 k2) := t5s.cell1 2
        have k53 : W5.cell? ⟨wx.heap.size + 1, 3, none⟩ = some (.slice p3 m3 k3) := t5s.cell1 3
        have hgz := t5s.g
        have hzb : wl.heap.size ≤ wx.heap.size := hbx.size
        have hb5 : Below wl.heap.size wl W5 := hbx.grown hgz hbx.size (fun g hg => by cases hg; exact hbx.size)
        have hownW := own_grown hown (Below.refl _ _) hgz (Nat.le_refl _)
        have htcW : TCells W5 wl.heap.size pre xs := htc.keep (fun v l h => own_grown h (Below.refl _ _) hgz (Nat.le_refl _))
        have u2 : Txt W5 wl.heap.size (.slice p2 m2 k2) ds := own_base ho2u (by omega)
        have u3 : Txt W5 wl.heap.size (.slice p3 m3 k3) ss := own_base ho3u (by omega)
        have RE := Lib.hid (rrend_any _ _ _ t5s.rd)
        have hB5 := hb5.size
        clear hown htc t5s ho2u ho3u
        by_cases hf3 : r4.fin = 0
        · have n3 : ((r4.fin : Int) != 0) = false := by simp; omega
          rw [if_neg (by simpa using hf3)] at hea
          have HEA : Hid (Pk.each takesT ts = (Pk.each takesT (ts.drop (k + 1))).map ((pre ++ [⟨n, cm, ds, ss⟩]) ++ ·)) := Lib.hid (by rw [hea]; cases Pk.each takesT (ts.drop (k + 1)) <;> simp)
          have hk9 : k + 1 ≤ 1000000000 := by omega
          have HTC := Lib.hid (TCells.snoc (t := ⟨n, cm, ds, ss⟩) u2 u3 htcW)
          have HOW := Lib.hid hownW
          have HPK := Lib.hid hpk
          clear hf3 hea hpk htcW u2 u3
          refine (RE.out).mono ?_
          rintro e w' ⟨rfl, rfl⟩
          go_wp2_with (at_builtin; refine append_el rfl (.tmp 45) (.tmp 47) 22 rfl wl.heap.size 46 _ 4 80 Tryd.underlying22 target_info rfl (by decide) (by decide) _ k _ rfl hownW [.string (bs n), .string (bs cm), .slice p2 m2 k2, .slice p3 m3 k3] _ rfl rfl (by simp [Value.oneCell']) _ (by simp) rfl hk9 hB5 hb5 ?_; intro v' w6 hown6 hb6 hoth6)
          have HKT : ∀ v l, Txt W5 wl.heap.size v l → Txt w6 wl.heap.size v l := fun v l h => own_beside h HOW.out (by decide) hoth6
          have HT6 := Lib.hid (HTC.out.keep HKT)
          go_roundw
          case rel => exact ⟨k + 1, pre ++ [⟨n, cm, ds, ss⟩], _, by go_num, by omega, by simp [HPK.out], hown6, HT6.out, hb6, HEA.out⟩
          case measure => simp [intOf]; omega
        · have n3 : ((r4.fin : Int) != 0) = true := by simp; omega
          rw [if_pos (by simpa using hf3)] at hea
          have AH : Hid (Pk.all takesT l = ([], 11)) := Lib.hid (by rw [AOH.out, hea]; rfl)
          have hfin := hbl.trans (hb5.mono hbl.size)
          clear hf3 hea hownW htcW u2 u3
          refine (RE.out).mono ?_
          rintro e w' ⟨rfl, rfl⟩
          go_wp2_with (fail)
          go_ret2
          exact readT_none AH.out hfin
      · obtain rfl : k = ts.length := by omega
        rw [List.drop_length, Pk.each] at hea
        have AH : Hid (Pk.all takesT l = (pre, 0)) := Lib.hid (by rw [AOH.out, hea]; simp)
        have hfin : Below w.heap.size w wx := hbl.trans (hbx.mono hbl.size)
        have hownF := own_base hown hbl.size
        have htcF : TCells wx w.heap.size pre xs := htc.keep (fun v l h => own_base h hbl.size)
        rw [← hpk] at hownF
        obtain ⟨p, m, c', rfl⟩ := own_form hown
        clear hown hea hpk htc
        go_wp2_with (fail)
        go_ret2
        exact ⟨_, _, ret_val (by rw [AH.out]; rfl), by rw [AH.out]; exact hownF, by rw [AH.out]; exact htcF, hfin⟩
  · have ABH := Lib.hid (AB.out hf)
    have n1 : ((ec : Int) != 0) = true := by simp; omega
    clear hf AB AO
    go_wp2_with (fail)
    go_ret2
    exact readT_none ABH.out hbl
end Go.Proofs.YtknmjbfhagldbaaDoor
