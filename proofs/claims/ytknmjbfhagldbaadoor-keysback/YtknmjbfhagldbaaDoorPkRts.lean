/- The contract of keys.ReadGraph. -/
import Derived.Test.YtknmjbfhagldbaaDoorPkRt
import Derived.Laws.StructEq
namespace Go.Proofs.YtknmjbfhagldbaaDoor
open Go.RowKit
set_option linter.unusedVariables false
set_option maxRecDepth 100000
theorem target_info : (Tryd.prog.info? 46).map (fun i => (i.zero, i.size, i.bytes)) = some (some (.agg #[.string .empty, .string .empty, .slice none 0 0, .slice none 0 0]), 4, 80) := by kernel_rfl
/-- a row of texts of the call's own -/
def Txt (w : World) (B : Nat) (v : Value) (l : List (List UInt8)) : Prop := w.ownsRow B 9 1 v l.length (l.map fun t => Value.string (bs t))
/-- targets' cells, their lists lying elsewhere -/
def TCells (w : World) (B : Nat) : List TgL → List Value → Prop
  | [], xs => xs = []
  | t :: ts, xs => ∃ v2 v3 ys, xs = .string (bs t.n) :: .string (bs t.c) :: v2 :: v3 :: ys ∧ Txt w B v2 t.ds ∧ Txt w B v3 t.ss ∧ TCells w B ts ys
theorem TCells.keep {w w' : World} {B B' : Nat} (hk : ∀ v l, Txt w B v l → Txt w' B' v l) : ∀ {ts : List TgL} {xs : List Value}, TCells w B ts xs → TCells w' B' ts xs
  | [], _, h => h
  | _ :: _, _, ⟨v2, v3, ys, e, h2, h3, h4⟩ => ⟨v2, v3, ys, e, hk _ _ h2, hk _ _ h3, TCells.keep hk h4⟩
theorem TCells.snoc {w : World} {B : Nat} {t : TgL} {v2 v3 : Value} (h2 : Txt w B v2 t.ds) (h3 : Txt w B v3 t.ss) : ∀ {ts : List TgL} {xs : List Value}, TCells w B ts xs → TCells w B (ts ++ [t]) (xs ++ [.string (bs t.n), .string (bs t.c), v2, v3])
  | [], xs, h => by
    have h' : xs = [] := h
    subst h'
    exact ⟨v2, v3, [], rfl, h2, h3, rfl⟩
  | _ :: _, _, ⟨u2, u3, ys, e, k2, k3, k4⟩ => by
    subst e
    exact ⟨u2, u3, ys ++ [.string (bs t.n), .string (bs t.c), v2, v3], rfl, k2, k3, TCells.snoc h2 h3 k4⟩
/-- a row stands where another row, of another element, is appended to -/
theorem own_beside {w w' : World} {B B' : Nat} {e e' : TypeId} {size size' : Nat} {v u : Value} {n m : Nat} {xs ys : List Value} (h : w.ownsRow B e size v n xs) (ho : w.ownsRow B' e' size' u m ys) (hne : e ≠ e') (hk : ∀ k, k < w.heap.size → some k ≠ u.ownBlock → w'.heap[k]? = w.heap[k]?) : w'.ownsRow B e size v n xs := by
  refine ⟨h.1, ?_⟩
  rcases h.2 with h0 | ⟨g, cap, cur, hv, hg, hcc, h1, h2, h3, h4⟩
  · exact .inl h0
  · refine .inr ⟨g, cap, cur, hv, hg, (hk g (lt_heap hcc) (fun e2 => ?_)).trans hcc, h1, h2, h3, h4⟩
    rcases ho.2 with ⟨rfl, _⟩ | ⟨g', cap', cur', hv', _, hcc', _⟩
    · simp [Value.ownBlock] at e2
    · subst hv'
      have : g = g' := by simpa [Value.ownBlock] using e2
      subst this
      rw [hcc] at hcc'
      injection hcc' with hcc'
      injection hcc' with _ ht
      exact hne ht
/-- what read says of targets -/
def ReadTSays (l : List UInt8) (w : World) (e : Ending) (w' : World) : Prop :=
  ∃ v xs, e = .returned (.tuple #[v, .int .i64 (Pk.all takesT l).2]) ∧ w'.ownsRow w.heap.size 46 4 v (Pk.all takesT l).1.length xs ∧ TCells w' w.heap.size (Pk.all takesT l).1 xs ∧ Below w.heap.size w w'
theorem readT_none {l : List UInt8} {w w' : World} {ec : Nat} (h : Pk.all takesT l = ([], ec)) (hb : Below w.heap.size w w') : ReadTSays l w (.returned (.tuple #[.slice none 0 0, .int .i64 ec])) w' :=
  ⟨.slice none 0 0, [], by rw [h], by rw [h]; exact World.ownsRow_nil _ _ _ _, by rw [h]; rfl, hb⟩
set_option maxHeartbeats 8000000 in
theorem readT_any (l : List UInt8) (hl : l.length ≤ 500000000) (w : World) :
    Calls Tryd.prog 39 #[.string (bs l), .func (.func 40) #[] #[]] w (ReadTSays l w) := by
  have RD := Lib.hid (read_any l)
  have LL := rlist_lens ⟨l, 0⟩
  have AB := Lib.hid (@all_bad _ takesT l)
  have AO := Lib.hid (@all_ok _ takesT l)
  go_enter Tryd.func39, Tryd.ntmps39
  go_wp2_with (go_at_call 50; ((with_reducible refine (RD.out _).mono ?_); rintro e w1 ⟨rfl, hr1, hb1⟩))
  refine (rlist_any _ _ (by show l.length ≤ _; omega) _ hr1).mono ?_
  rintro e wl ⟨v, rfl, hown, hrl, hgl⟩
  generalize (Pk.Rd.list ⟨l, 0⟩).2 = r2 at *
  generalize (Pk.Rd.list ⟨l, 0⟩).1 = ts at *
  have hbl : Below w.heap.size w wl := hb1.grown hgl hb1.size (fun k hk => by cases hk; exact Nat.le_refl _)
  obtain ⟨A, m, c, rfl⟩ := own_form hown
  have hm : m = ts.length := by
    rcases hown.2 with ⟨h1, h2⟩ | ⟨g, cap, cur, h1, _⟩
    · injection h1; omega
    · injection h1
  subst hm
  have hst : Strs wl wl.heap.size A (ts.map bs) := by
    have := Reads.of_own hown
    unfold Strs
    rw [List.length_map, List.map_map]
    exact this
  have RE := Lib.hid (rend_any _ _ _ hrl)
  clear hown hgl hr1 hrl hb1
  by_cases hf : r2.fin = 0
  · have n1 : ((r2.fin : Int) != 0) = false := by simp; omega
    have AOH := Lib.hid (AO.out hf)
    clear hf AB AO
    go_wp2_with (go_at_call 51; ((with_reducible refine (RE.out).mono ?_); rintro e w' ⟨rfl, rfl⟩))
    clear n1
    go_loopw [9, 25] (fun v i wx => ∃ (k : Nat) (pre : List TgL) (xs : List Value), i = .int .i64 k ∧ k ≤ ts.length ∧ pre.length = k ∧ wx.ownsRow wl.heap.size 46 4 v k xs ∧ TCells wx wl.heap.size pre xs ∧ Below wl.heap.size wl wx ∧ Pk.each takesT ts = (Pk.each takesT (ts.drop k)).map (pre ++ ·)) (fun _ i _ => ts.length - (intOf i).toNat)
    case atStart => exact ⟨0, [], [], rfl, by omega, rfl, World.ownsRow_nil _ _ _ _, rfl, Below.refl _ _, by simp⟩
    case round =>
      obtain ⟨k, pre, xs, rfl, hk, hpk, hown, htc, hbx, hea⟩ := hrel
      rename World => wx
      by_cases hlt : k < ts.length
      · have hrx := hst.below hbx
        obtain ⟨ad, rfl, had, hc⟩ := hrx.at_ (k := k) (by simpa using hlt)
        have hc' : wx.cell? (ad.add k) = some (.string (bs ts[k])) := by simpa using hc
        have hkI : (k : Int) < (ts.length : Int) := by omega
        have hsl := LL.1 _ (List.getElem_mem hlt)
        rw [each_drop hlt] at hea
        have RDx := Lib.hid (read_any ts[k] wx)
        have TK := takeT_any wx.heap.size ⟨ts[k], 0⟩ (by show ts[k].length ≤ _; omega)
        clear hc hst
        generalize ts[k] = s at *
        go_wp2_with (go_at_call 50; ((with_reducible refine (RDx.out).mono ?_); rintro e w2 ⟨rfl, hr2, hb2⟩))
        refine (TK _ hr2).mono ?_
        rintro e w3 ⟨v2, v3, rfl, ho2, ho3, hr3, hg3⟩
        have hb3 : Below wl.heap.size wl w3 := (hbx.trans (hb2.mono hbx.size)).grown hg3 ((hbx.trans (hb2.mono hbx.size)).size) (fun g hg => by cases hg; exact hbx.size)
        have hownW := own_grown hown hb2 hg3 (Nat.le_refl _)
        have htcW : TCells w3 wl.heap.size pre xs := htc.keep (fun v l h => own_grown h hb2 hg3 (Nat.le_refl _))
        have hzb := Nat.le_trans hbx.size hb2.size
        clear hown htc hr2 hg3 hb2
        generalize takesT ⟨s, 0⟩ = tf at *
        obtain ⟨t, r3⟩ := tf
        simp only at hr3 hea ho2 ho3
        have t2 : Txt w3 wl.heap.size v2 t.ds := own_base ho2 hzb
        have t3 : Txt w3 wl.heap.size v3 t.ss := own_base ho3 hzb
        obtain ⟨p2, m2, k2, rfl⟩ := own_form ho2
        obtain ⟨p3, m3, k3, rfl⟩ := own_form ho3
        clear ho2 ho3
        by_cases hf3 : r3.fin = 0
        · have n3 : ((r3.fin : Int) != 0) = false := by simp; omega
          rw [if_neg (by simpa using hf3)] at hea
          have HEA : Hid (Pk.each takesT ts = (Pk.each takesT (ts.drop (k + 1))).map ((pre ++ [t]) ++ ·)) := Lib.hid (by rw [hea]; cases Pk.each takesT (ts.drop (k + 1)) <;> simp)
          have RE3 := fun o => rend_any wx.heap.size r3 (w3.alloc o) (hr3.later ((Below.refl _ _).alloc (Nat.le_refl _) o))
          have RE3H := Lib.hid RE3
          have hk9 : k + 1 ≤ 1000000000 := by omega
          have hbA : ∀ o, Below wl.heap.size wl (w3.alloc o) := fun o => hb3.alloc hb3.size o
          have hownA := fun o => hownW.alloc o
          have HTC := Lib.hid (TCells.snoc t2 t3 htcW)
          have HOW := Lib.hid hownW
          clear hf3 hea hr3 RE3 hownW htcW t2 t3
          have HPK := Lib.hid hpk
          clear hpk
          go_wp2_with (first | (go_at_call 51; ((with_reducible refine (RE3H.out _).mono ?_); rintro e w' ⟨rfl, rfl⟩)) | (at_builtin; refine append_el rfl (.tmp 37) (.tmp 39) 22 rfl wl.heap.size 46 _ 4 80 Tryd.underlying22 target_info rfl (by decide) (by decide) _ k _ rfl (hownA _) [.string (bs t.n), .string (bs t.c), .slice p2 m2 k2, .slice p3 m3 k3] _ rfl rfl (by simp [Value.oneCell']) _ (by simp) rfl hk9 (hbA _).size (hbA _) ?_; intro v' w4 hown4 hb4 hoth4))
          have HKT : ∀ v l, Txt w3 wl.heap.size v l → Txt w4 wl.heap.size v l := fun v l h => own_beside (own_later h ((Below.refl _ _).alloc (Nat.le_refl _) _)) (HOW.out.alloc _) (by decide) hoth4
          have HT4 := Lib.hid (HTC.out.keep HKT)
          go_roundw
          case rel => exact ⟨k + 1, pre ++ [t], _, by go_num, by omega, by simp [HPK.out], hown4, HT4.out, hb4, HEA.out⟩
          case measure => simp [intOf]; omega
        · have n3 : ((r3.fin : Int) != 0) = true := by simp; omega
          rw [if_pos (by simpa using hf3)] at hea
          have AH : Hid (Pk.all takesT l = ([], 11)) := Lib.hid (by rw [AOH.out, hea]; rfl)
          have RE3 := fun o => rend_any wx.heap.size r3 (w3.alloc o) (hr3.later ((Below.refl _ _).alloc (Nat.le_refl _) o))
          have RE3H := Lib.hid RE3
          clear hf3 hea hr3 RE3 hownW htcW t2 t3
          have hfin : ∀ o, Below w.heap.size w (w3.alloc o) := fun o => (hbl.trans (hb3.mono hbl.size)).alloc (hbl.trans (hb3.mono hbl.size)).size o
          go_wp2_with (go_at_call 51; ((with_reducible refine (RE3H.out _).mono ?_); rintro e w' ⟨rfl, rfl⟩))
          go_ret2
          exact readT_none AH.out (hfin _)
      · obtain rfl : k = ts.length := by omega
        rw [List.drop_length, Pk.each] at hea
        have AH : Hid (Pk.all takesT l = (pre, 0)) := Lib.hid (by rw [AOH.out, hea]; simp)
        have hfin : Below w.heap.size w wx := hbl.trans (hbx.mono hbl.size)
        have hownF := own_base hown hbl.size
        have htcF : TCells wx w.heap.size pre xs := htc.keep (fun v l h => own_base h hbl.size)
        rw [← hpk] at hownF
        obtain ⟨p, m, c', rfl⟩ := own_form hown
        clear hown hea hpk htc
        go_wp2_with (fail)
        go_ret2
        exact ⟨_, _, ret_val (by rw [AH.out]; rfl), by rw [AH.out]; exact hownF, by rw [AH.out]; exact htcF, hfin⟩
  · have n1 : ((r2.fin : Int) != 0) = true := by simp; omega
    have ABH := Lib.hid (AB.out hf)
    clear hf AB AO
    go_wp2_with (go_at_call 51; ((with_reducible refine (RE.out).mono ?_); rintro e w' ⟨rfl, rfl⟩))
    go_ret2
    exact readT_none ABH.out hbl
theorem readGraph_any (l : List UInt8) (hl : l.length ≤ 500000000) (w : World) :
    Calls Tryd.prog 19 #[.string (bs l)] w (ReadTSays l w) := by
  have RF := Lib.hid (readT_any l hl w)
  go_enter Tryd.func19, Tryd.ntmps19
  go_wp2_with (fail)
  refine (RF.out).mono ?_
  rintro e w1 ⟨v, xs, rfl, hown, htc, hb1⟩
  go_wp2_with (fail)
  go_ret2
  exact ⟨v, xs, rfl, hown, htc, hb1⟩
end Go.Proofs.YtknmjbfhagldbaaDoor
