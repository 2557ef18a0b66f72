/- The walks of the cache's methods at int. -/
import Derived.Test.YtcifjhhofefpjaaCaBase
import Derived.Lib.Hide
namespace Go.Proofs.Ytcifjhhofefpjaa.Ca.I
open Go.RowKit Go.Maps
set_option linter.unusedVariables false
set_option maxRecDepth 100000
abbrev enc (v : Int) : Value := Value.int .i64 v
theorem hT : 55 ≠ 60 := by decide
theorem zP : ∀ W, (zeroValue 56).run Try.prog W = .ok (.pointer none) W := fun W => by kernel_rfl
theorem tick_any (c clock : Nat) (x y : Value) (w : World) (hc : w.heap[c]? = some (.cells #[x, .int .i64 clock, y] 55 (0, 0))) (hcl : clock < 1000000000) :
    Calls Try.prog 30 #[.pointer (some ⟨c, 0, none⟩)] w fun e w' => e = .returned (.int .i64 ((clock : Int) + 1)) ∧ w' = w.setCell ⟨c, 1, none⟩ (.int .i64 ((clock : Int) + 1)) := by
  have h1 : w.cell? ⟨c, 1, none⟩ = some (.int .i64 clock) := (cell_at hc 1).trans rfl
  have h2 := free_at hc 1
  clear hc
  go_enter Try.func30, Try.ntmps30
  go_wp2
  go_ret
  exact ⟨rfl, rfl⟩
abbrev Says := CaSays enc 55 60
abbrev Is := IsCa enc 55 60
abbrev Ca_ := CaE enc 55 60
theorem new_ok (most : Nat) (h1 : 1 ≤ most) (h2 : most ≤ 1000) (w : World) : Calls Try.prog 8 #[.int .i64 most] w fun e w' =>
    e = .returned (.tuple #[.pointer (some ⟨w.heap.size + 1, 0, none⟩), .int .i64 0]) ∧ Is w' w.heap.size (w.heap.size + 1) w.heap.size most 0 [] ∧ Below w.heap.size w w' := by
  have i1 : decide ((most : Int) < 1) = false := decide_eq_false (by omega)
  have i2 : decide ((1000 : Int) < (most : Int)) = false := decide_eq_false (by omega)
  have hmm := @run_makeMap Try.prog
  go_enter Try.func8, Try.ntmps8
  go_wp2
  go_ret2
  refine ⟨rfl, ⟨0, .map [], [], CaE.made _ _ _ _ _ (by simpa using heap_alloc_new (w.alloc (.map #[] 0)) _) ((World.ownsMap_made w _ _ _).alloc _) (by omega) (Nat.le_refl _), rfl⟩, ((Below.refl _ _).alloc (Nat.le_refl _) _).alloc (by simp) _⟩
theorem new_bad (most : Int) (h : most < 1 ∨ 1000 < most) (w : World) : Calls Try.prog 8 #[.int .i64 most] w fun e w' => e = .returned (.tuple #[.pointer none, .int .i64 1]) ∧ w = w' := by
  rcases h with h | h
  · have i1 : decide (most < 1) = true := decide_eq_true (by omega)
    go_enter Try.func8, Try.ntmps8
    go_wp2
    go_ret2
    exact ⟨rfl, rfl⟩
  · have i1 : decide (most < 1) = false := decide_eq_false (by omega)
    have i2 : decide (1000 < most) = true := decide_eq_true (by omega)
    go_enter Try.func8, Try.ntmps8
    go_wp2
    go_ret2
    exact ⟨rfl, rfl⟩
section
variable {w : World} {B c m most t clock : Nat} {D : DataW Unit} {E : List (En Int)}
theorem find_yes (h : Ca_ w B c m most t clock D E) {e : En Int} (he : e ∈ E) : Calls Try.prog 39 #[.pointer (some ⟨c, 0, none⟩), .string e.k] w fun r w' => r = .returned (.tuple #[.pointer (some ⟨e.b, 0, none⟩), .int .i64 0]) ∧ w = w' := by
  have hl := h.look_ok Try.underlying53 zP he
  have hc : w.cell? ⟨c, 2, none⟩ = some (.map (some m)) := (cell_at h.hdr 2).trans rfl
  clear h he
  go_enter Try.func39, Try.ntmps39
  go_wp2
  go_ret2
  exact ⟨rfl, rfl⟩
theorem find_no (h : Ca_ w B c m most t clock D E) {k : ByteArray} (hk : k.size ≤ maxLen) (hno : ∀ e ∈ E, e.k ≠ k) : Calls Try.prog 39 #[.pointer (some ⟨c, 0, none⟩), .string k] w fun r w' => r = .returned (.tuple #[.pointer none, .int .i64 17]) ∧ w = w' := by
  have hl := h.look_no Try.underlying53 zP hk hno
  have hc : w.cell? ⟨c, 2, none⟩ = some (.map (some m)) := (cell_at h.hdr 2).trans rfl
  clear h hno
  go_enter Try.func39, Try.ntmps39
  go_wp2
  go_ret2
  exact ⟨rfl, rfl⟩
theorem find_nil (k : ByteArray) (w : World) : Calls Try.prog 39 #[.pointer none, .string k] w fun r w' => r = .returned (.tuple #[.pointer none, .int .i64 2]) ∧ w = w' := by
  go_enter Try.func39, Try.ntmps39
  go_wp2
  go_ret2
  exact ⟨rfl, rfl⟩
theorem pin_nil (k : ByteArray) (w : World) : Calls Try.prog 15 #[.pointer none, .string k] w fun r w' => r = .returned (.int .i64 2) ∧ w = w' := by
  go_enter Try.func15, Try.ntmps15
  go_wp2_with (go_at_call 39; ((with_reducible refine (find_nil _ _).mono ?_); rintro e w' ⟨rfl, rfl⟩))
  go_ret
  exact ⟨rfl, rfl⟩
theorem unpin_nil (k : ByteArray) (w : World) : Calls Try.prog 17 #[.pointer none, .string k] w fun r w' => r = .returned (.int .i64 2) ∧ w = w' := by
  go_enter Try.func17, Try.ntmps17
  go_wp2_with (go_at_call 39; ((with_reducible refine (find_nil _ _).mono ?_); rintro e w' ⟨rfl, rfl⟩))
  go_ret
  exact ⟨rfl, rfl⟩
theorem drop_nil (k : ByteArray) (w : World) : Calls Try.prog 19 #[.pointer none, .string k] w fun r w' => r = .returned (.int .i64 2) ∧ w = w' := by
  go_enter Try.func19, Try.ntmps19
  go_wp2_with (go_at_call 39; ((with_reducible refine (find_nil _ _).mono ?_); rintro e w' ⟨rfl, rfl⟩))
  go_ret
  exact ⟨rfl, rfl⟩
theorem get_nil (k : ByteArray) (w : World) : Calls Try.prog 13 #[.pointer none, .string k] w fun r w' => r = .returned (.tuple #[(.int .i64 0), .bool false]) ∧ w = w' := by
  go_enter Try.func13, Try.ntmps13
  go_wp2
  go_ret2
  exact ⟨rfl, rfl⟩
end
variable {w : World} {B c m most t : Nat} {L : List (Th Int)}
theorem pin_any (h : Is w B c m most t L) {k : ByteArray} (hk : k.size ≤ maxLen) (ht : t < 1000000000) :
    Calls Try.prog 15 #[.pointer (some ⟨c, 0, none⟩), .string k] w (Says w B c m most (t + 1) (pin L k).1 (.int .i64 (pin L k).2)) := by
  obtain ⟨clock, D, E, h, rfl⟩ := h
  rcases at_cases E k with ⟨Ea, e, Eb, rfl, rfl, hat⟩ | ⟨hno, hat⟩
  · have hp : pin ((Ea ++ e :: Eb).map En.th) e.k = (Ea.map En.th ++ ⟨e.k, e.v, e.p + 1⟩ :: Eb.map En.th, 0) := by unfold pin; rw [hat]; rfl
    rw [hp]
    have he : e ∈ Ea ++ e :: Eb := by simp
    have hth := h.things e he
    have F := Lib.hid (find_yes h he)
    have h1 : w.cell? ⟨e.b, 1, none⟩ = some (.int .i64 e.p) := (cell_at hth 1).trans rfl
    have h2 := free_at hth 1
    have u := Upd.setCell hth 1 (.int .i64 ((e.p : Int) + 1))
    have hpp : (e.p : Int) ≤ 1000000000 := by have := h.pins e he; omega
    have fin : Says w B c m most (t + 1) (Ea.map En.th ++ ⟨e.k, e.v, e.p + 1⟩ :: Eb.map En.th) (.int .i64 (0 : Nat)) (.returned (.int .i64 0)) (w.setCell ⟨e.b, 1, none⟩ (.int .i64 ((e.p : Int) + 1))) :=
      ⟨rfl, ⟨clock, D, _, h.inPlace (v := e.v) (p := e.p + 1) hT (Nat.le_succ _) (Nat.succ_le_succ (h.pins e he)) u, by simp [En.th]⟩, (Below.refl _ _).setCell (h.be e he) _, FrC.updT u (by rw [size_setCell]; exact Nat.le_refl _) hth⟩
    have FIN := Lib.hid fin
    clear fin u hth h hat hp
    go_enter Try.func15, Try.ntmps15
    go_wp2_with (go_at_call 39; ((with_reducible refine (F.out).mono ?_); rintro e w' ⟨rfl, rfl⟩))
    go_ret
    exact FIN.out
  · have hp : pin (E.map En.th) k = (E.map En.th, 17) := by unfold pin; rw [hat]
    rw [hp]
    have F := Lib.hid (find_no h hk hno)
    have FIN : Hid (Says w B c m most (t + 1) (E.map En.th) (.int .i64 (17 : Nat)) (.returned (.int .i64 17)) w) := Lib.hid ⟨rfl, ⟨clock, D, E, h.later (Nat.le_succ _), rfl⟩, Below.refl _ _, FrC.refl _ _ _ _⟩
    clear h hat hp hno
    go_enter Try.func15, Try.ntmps15
    go_wp2_with (go_at_call 39; ((with_reducible refine (F.out).mono ?_); rintro e w' ⟨rfl, rfl⟩))
    go_ret
    exact FIN.out
theorem unpin_any (h : Is w B c m most t L) {k : ByteArray} (hk : k.size ≤ maxLen) (ht : t < 1000000000) :
    Calls Try.prog 17 #[.pointer (some ⟨c, 0, none⟩), .string k] w (Says w B c m most (t + 1) (unpin L k).1 (.int .i64 (unpin L k).2)) := by
  obtain ⟨clock, D, E, h, rfl⟩ := h
  rcases at_cases E k with ⟨Ea, e, Eb, rfl, rfl, hat⟩ | ⟨hno, hat⟩
  · have he : e ∈ Ea ++ e :: Eb := by simp
    have hth := h.things e he
    have F := Lib.hid (find_yes h he)
    have h1 : w.cell? ⟨e.b, 1, none⟩ = some (.int .i64 e.p) := (cell_at hth 1).trans rfl
    have h2 := free_at hth 1
    have hpp : (e.p : Int) ≤ 1000000000 := by have := h.pins e he; omega
    by_cases hz : e.p = 0
    · have hp : unpin ((Ea ++ e :: Eb).map En.th) e.k = ((Ea ++ e :: Eb).map En.th, 43) := by unfold unpin; rw [hat]; exact if_pos hz
      rw [hp]
      have hb : ((e.p : Int) == 0) = true := by rw [hz]; rfl
      have FIN : Hid (Says w B c m most (t + 1) ((Ea ++ e :: Eb).map En.th) (.int .i64 (43 : Nat)) (.returned (.int .i64 43)) w) := Lib.hid ⟨rfl, ⟨clock, D, _, h.later (Nat.le_succ _), rfl⟩, Below.refl _ _, FrC.refl _ _ _ _⟩
      clear h hat hp hth hz
      go_enter Try.func17, Try.ntmps17
      go_wp2_with (go_at_call 39; ((with_reducible refine (F.out).mono ?_); rintro e w' ⟨rfl, rfl⟩))
      go_ret
      exact FIN.out
    · have hp : unpin ((Ea ++ e :: Eb).map En.th) e.k = (Ea.map En.th ++ ⟨e.k, e.v, e.p - 1⟩ :: Eb.map En.th, 0) := by unfold unpin; rw [hat]; exact if_neg hz
      rw [hp]
      have hb : ((e.p : Int) == 0) = false := beq_eq_false_iff_ne.2 (by omega)
      have u := Upd.setCell hth 1 (.int .i64 ((e.p : Int) - 1))
      have e1 : ((e.p - 1 : Nat) : Int) = (e.p : Int) - 1 := by omega
      have FIN : Hid (Says w B c m most (t + 1) (Ea.map En.th ++ ⟨e.k, e.v, e.p - 1⟩ :: Eb.map En.th) (.int .i64 (0 : Nat)) (.returned (.int .i64 0)) (w.setCell ⟨e.b, 1, none⟩ (.int .i64 ((e.p : Int) - 1)))) := Lib.hid (by
        refine ⟨rfl, ⟨clock, D, _, h.inPlace (v := e.v) (p := e.p - 1) hT (Nat.le_succ _) (by have := h.pins e he; omega) ?_, by simp [En.th]⟩, (Below.refl _ _).setCell (h.be e he) _, FrC.updT u (by rw [size_setCell]; exact Nat.le_refl _) hth⟩
        rw [e1]
        exact u)
      have hp1 : (1 : Int) ≤ (e.p : Int) := by omega
      clear u hth h hat hp hz e1
      go_enter Try.func17, Try.ntmps17
      go_wp2_with (go_at_call 39; ((with_reducible refine (F.out).mono ?_); rintro e w' ⟨rfl, rfl⟩))
      go_ret
      exact FIN.out
  · have hp : unpin (E.map En.th) k = (E.map En.th, 17) := by unfold unpin; rw [hat]
    rw [hp]
    have F := Lib.hid (find_no h hk hno)
    have FIN : Hid (Says w B c m most (t + 1) (E.map En.th) (.int .i64 (17 : Nat)) (.returned (.int .i64 17)) w) := Lib.hid ⟨rfl, ⟨clock, D, E, h.later (Nat.le_succ _), rfl⟩, Below.refl _ _, FrC.refl _ _ _ _⟩
    clear h hat hp hno
    go_enter Try.func17, Try.ntmps17
    go_wp2_with (go_at_call 39; ((with_reducible refine (F.out).mono ?_); rintro e w' ⟨rfl, rfl⟩))
    go_ret
    exact FIN.out
theorem drop_any (h : Is w B c m most t L) {k : ByteArray} (hk : k.size ≤ maxLen) (ht : t < 1000000000) :
    Calls Try.prog 19 #[.pointer (some ⟨c, 0, none⟩), .string k] w (Says w B c m most (t + 1) (drop L k).1 (.int .i64 (drop L k).2)) := by
  obtain ⟨clock, D, E, h, rfl⟩ := h
  have hcc : w.cell? ⟨c, 2, none⟩ = some (.map (some m)) := (cell_at h.hdr 2).trans rfl
  rcases at_cases E k with ⟨Ea, e, Eb, rfl, rfl, hat⟩ | ⟨hno, hat⟩
  · have he : e ∈ Ea ++ e :: Eb := by simp
    have hth := h.things e he
    have F := Lib.hid (find_yes h he)
    have h1 : w.cell? ⟨e.b, 1, none⟩ = some (.int .i64 e.p) := (cell_at hth 1).trans rfl
    have hpp : (e.p : Int) ≤ 1000000000 := by have := h.pins e he; omega
    by_cases hz : e.p = 0
    · have hp : drop ((Ea ++ e :: Eb).map En.th) e.k = (Ea.map En.th ++ Eb.map En.th, 0) := by unfold drop; rw [hat]; exact if_pos hz
      rw [hp]
      have hb : decide (0 < e.p) = false := decide_eq_false (by omega)
      have FIN : Hid (∀ w1, w1.ownsMap Try.prog 9 Rp m (Ea ++ e :: Eb).length (D.del (.string (tl e.k))) → w.mapTurned w1 m → Says w B c m most (t + 1) (Ea.map En.th ++ Eb.map En.th) (.int .i64 (0 : Nat)) (.returned (.int .i64 0)) w1) := Lib.hid (by
        intro w1 hown ht
        have hg := ht.grown
        have ho : ∀ j, j < w.heap.size → j ≠ m → w1.heap[j]? = w.heap[j]? := fun j hj hne => hg.block j hj (fun e => hne (by injection e))
        exact ⟨rfl, ⟨clock, _, _, (h.del hown ho).later (Nat.le_succ _), by simp⟩, (Below.refl _ _).grown hg (by have := h.map.lt; have := h.bm; omega) (fun k e => by injection e with e; subst e; exact h.bm), FrC.map_ hg.size ho⟩)
      have hmap := h.map
      have hkof := Lib.hid (kof (h.lens e he))
      clear h hat hp hz hth
      go_enter Try.func19, Try.ntmps19
      go_wp2_with (first | (go_at_call 39; ((with_reducible refine (F.out).mono ?_); rintro e w' ⟨rfl, rfl⟩)) | (at_delete; go_loud (refine wpList_delete_own _ rfl _ _ 53 9 rfl 56 kstr Try.underlying53 Rp m _ _ rfl hmap _ _ rfl hkof.out ?_); intro w1 hown1 hturn1; have HO := Lib.hid hown1; have HT := Lib.hid hturn1; clear hown1 hturn1 hmap))
      go_ret
      exact FIN.out _ HO.out HT.out
    · have hp : drop ((Ea ++ e :: Eb).map En.th) e.k = ((Ea ++ e :: Eb).map En.th, 43) := by unfold drop; rw [hat]; exact if_neg hz
      rw [hp]
      have hb : decide (0 < e.p) = true := decide_eq_true (by omega)
      have FIN : Hid (Says w B c m most (t + 1) ((Ea ++ e :: Eb).map En.th) (.int .i64 (43 : Nat)) (.returned (.int .i64 43)) w) := Lib.hid ⟨rfl, ⟨clock, D, _, h.later (Nat.le_succ _), rfl⟩, Below.refl _ _, FrC.refl _ _ _ _⟩
      clear h hat hp hth hz
      go_enter Try.func19, Try.ntmps19
      go_wp2_with (go_at_call 39; ((with_reducible refine (F.out).mono ?_); rintro e w' ⟨rfl, rfl⟩))
      go_ret
      exact FIN.out
  · have hp : drop (E.map En.th) k = (E.map En.th, 17) := by unfold drop; rw [hat]
    rw [hp]
    have F := Lib.hid (find_no h hk hno)
    have FIN : Hid (Says w B c m most (t + 1) (E.map En.th) (.int .i64 (17 : Nat)) (.returned (.int .i64 17)) w) := Lib.hid ⟨rfl, ⟨clock, D, E, h.later (Nat.le_succ _), rfl⟩, Below.refl _ _, FrC.refl _ _ _ _⟩
    clear h hat hp hno
    go_enter Try.func19, Try.ntmps19
    go_wp2_with (go_at_call 39; ((with_reducible refine (F.out).mono ?_); rintro e w' ⟨rfl, rfl⟩))
    go_ret
    exact FIN.out
/-- what Get hands back -/
def got (r : Option Int) : Value := match r with | some v => .tuple #[enc v, .bool true] | none => .tuple #[(.int .i64 0), .bool false]
theorem get_any (h : Is w B c m most t L) {k : ByteArray} (hk : k.size ≤ maxLen) (ht : t < 1000000000) :
    Calls Try.prog 13 #[.pointer (some ⟨c, 0, none⟩), .string k] w (Says w B c m most (t + 1) (get L k).1 (got (get L k).2)) := by
  obtain ⟨clock, D, E, h, rfl⟩ := h
  have hcc : w.cell? ⟨c, 2, none⟩ = some (.map (some m)) := (cell_at h.hdr 2).trans rfl
  rcases at_cases E k with ⟨Ea, e, Eb, rfl, rfl, hat⟩ | ⟨hno, hat⟩
  · have he : e ∈ Ea ++ e :: Eb := by simp
    have hth := h.things e he
    have hl := h.look_ok Try.underlying53 zP he
    have hp : get ((Ea ++ e :: Eb).map En.th) e.k = (Ea.map En.th ++ Eb.map En.th ++ [e.th], some e.v) := by unfold get; rw [hat]; rfl
    rw [hp]
    have hck := h.clk
    have hne := h.ne_ce hT e he
    have T := Lib.hid (tick_any c clock _ _ w h.hdr (by omega))
    have h' := h.tick hT
    have hth' := h'.things e he
    obtain ⟨W, eW⟩ : ∃ W, W = w.setCell ⟨c, 1, none⟩ (.int .i64 ((clock : Int) + 1)) := ⟨_, rfl⟩
    rw [← eW] at h' hth' T
    have h2 := free_at hth' 2
    have h3 : W.cell? ⟨e.b, 2, none⟩ = some (.int .i64 e.s) := (cell_at hth' 2).trans rfl
    have h4 : W.cell? ⟨e.b, 0, none⟩ = some (enc e.v) := (cell_at hth' 0).trans rfl
    have u := Upd.setCell hth' 2 (.int .i64 ((clock : Int) + 1))
    have hb1 : Below B w W := by rw [eW]; exact (Below.refl _ _).setCell h.bc _
    have hf1 : FrC 55 60 m w W := by rw [eW]; exact FrC.updC (Upd.setCell h.hdr 1 _) (by rw [size_setCell]; exact Nat.le_refl _) h.hdr
    have FIN : Hid (Says w B c m most (t + 1) (Ea.map En.th ++ Eb.map En.th ++ [e.th]) (.tuple #[enc e.v, .bool true]) (.returned (.tuple #[enc e.v, .bool true])) (W.setCell ⟨e.b, 2, none⟩ (.int .i64 ((clock : Int) + 1)))) := Lib.hid (by
      refine ⟨rfl, ⟨clock + 1, D, _, h'.toEnd (v := e.v) (s := clock + 1) hT (Nat.le_refl _) (fun x hx => Nat.lt_succ_of_le (h.since x hx)) u, by simp [En.th]⟩, hb1.setCell (h.be e he) _, hf1.trans (FrC.updT u (by rw [size_setCell]; exact Nat.le_refl _) hth')⟩)
    clear h h' hth hth' u hat hp eW hb1 hf1 hne hck
    go_enter Try.func13, Try.ntmps13
    go_wp2_with (go_at_call 30; ((with_reducible refine (T.out).mono ?_); rintro e w' ⟨rfl, rfl⟩))
    go_ret2
    exact FIN.out
  · have hp : get (E.map En.th) k = (E.map En.th, none) := by unfold get; rw [hat]
    rw [hp]
    have hl := h.look_no Try.underlying53 zP hk hno
    have FIN : Hid (Says w B c m most (t + 1) (E.map En.th) (.tuple #[(.int .i64 0), .bool false]) (.returned (.tuple #[(.int .i64 0), .bool false])) w) := Lib.hid ⟨rfl, ⟨clock, D, E, h.later (Nat.le_succ _), rfl⟩, Below.refl _ _, FrC.refl _ _ _ _⟩
    clear h hat hp hno
    go_enter Try.func13, Try.ntmps13
    go_wp2
    go_ret2
    exact FIN.out
end Go.Proofs.Ytcifjhhofefpjaa.Ca.I
