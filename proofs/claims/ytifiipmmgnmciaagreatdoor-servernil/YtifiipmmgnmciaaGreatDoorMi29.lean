/- Joined by mkmerged.py: SvLease, SvSched. -/
import Derived.Test.YtifiipmmgnmciaaGreatDoorMi27
import Derived.Test.YtifiipmmgnmciaaGreatDoorMi21
import Derived.Test.YtifiipmmgnmciaaGreatDoorMi16
import Derived.Deep.QuietTactic
import Derived.BigQuiet
import Derived.BigRegion
import Derived.Test.YtifiipmmgnmciaaGreatDoorMi03
/- SvLease, what a claim needs of it (prune.py). -/
namespace Go.Proofs.YtifiipmmgnmciaaGreatDoor.Sv
open Go.RowKit Go.Maps Go.Sort
open Dk (Kp)
set_option linter.unusedVariables false
set_option maxRecDepth 100000
abbrev NoM : ByteArray → Option Value := fun _ => none
theorem del_put (K : ByteArray) (v : Value) : Mv.delM (Mv.putM NoM K v) K = NoM := funext fun s => by
  unfold Mv.delM Mv.putM
  by_cases h : s = K
  · rw [if_pos h]
  · rw [if_neg h, if_neg h]
def TB (W : World) (tb ml : Nat) (epoch : Int) : Prop := W.heap[tb]? = some (.cells #[.int .i64 10, .int .i64 epoch, .map (some ml)] 135 (0, 0))
abbrev leaseV (K wk : ByteArray) : Value := .agg #[.string K, .int .i64 0, .int .i64 1, .string wk, .int .i64 1, .int .i64 12]
theorem lnew_any (W : World) : Calls Tryz.prog 83 #[.int .i64 10] W fun e w' => e = .returned (.tuple #[.pointer (some ⟨W.heap.size + 1, 0, none⟩), .int .i64 0]) ∧ w' = (W.alloc (.map #[] 0)).alloc (.cells #[.int .i64 10, .int .i64 0, .map (some W.heap.size)] 135) := by
  have hmm := @run_makeMap Tryz.prog
  go_enter Tryz.func83, Tryz.ntmps83
  go_wp2_with (fail)
  go_ret2
  exact ⟨rfl, rfl⟩
theorem keys_none {W : World} {m n : Nat} (h : Mv.VMap W m n NoM) : ∃ D : DataW Value, W.ownsMap Tryz.prog 9 Mv.rv m n D ∧ Maps.size D ≤ n ∧ strKeys D = [] := by
  obtain ⟨D, hown, hs⟩ := h
  have hown' := hown
  obtain ⟨es, rfl, hpw⟩ := hown.tidy Mv.kstr
  obtain ⟨es', cl, h1, F, h3, hD⟩ := hown'
  injection hD with hD
  have hko : ∀ p ∈ es, ∃ x, p.1 = .string x := by
    intro p hp
    rw [hD] at hp
    obtain ⟨v, hv⟩ := (keys_perm (WideShapes.sorted_perm _).symm (fit_keys F)) p hp
    obtain ⟨x, _, hx, _⟩ := Maps.keyOf_str Tryz.underlying9 hv
    exact ⟨x, hx⟩
  refine ⟨_, hown, hown.size_le, ?_⟩
  have hp : List.Perm [] (strKeys (.map es)) := perm_strKeys hpw hko List.nodup_nil fun x => by
    have := (hs ⟨x.toArray⟩).1
    simp only at this
    rw [this]
    simp [NoM]
  exact hp.symm.eq_nil
theorem llist_none (W : World) (tb ml n : Nat) (epoch : Int) (h : TB W tb ml epoch) (hm : Mv.VMap W ml n NoM) (hn : n ≤ 1000000) : Calls Tryz.prog 127 #[.pointer (some ⟨tb, 0, none⟩)] W fun e w' => e = .returned (.slice none 0 0) ∧ Below W.heap.size W w' := by
  obtain ⟨D, hown, hsz, hk⟩ := keys_none hm
  have c2 : W.cell? ⟨tb, 2, none⟩ = some (.map (some ml)) := (cell_heap h 2).trans rfl
  have hbl := hown.lt
  have hmax : Maps.size D ≤ maxLen := by unfold maxLen; omega
  have hbytes : Maps.size D * 16 ≤ 140737488355328 := by omega
  have hseq : SeqGives Fence.wide 2 Tryz.prog 246 #[.pointer (some ⟨W.heap.size, 0, none⟩)] encStr (fun ss => ss.Perm (strKeys D)) (Maps.size D) (W.alloc (.cells #[.map (some ml)] 133)) :=
    AnyZ.keys_gives (ρ := Tryz.l191_ren) { Tryz.l191 with } Fence.wide _ trivial rfl (by omega) W.heap.size ml n D _ (by simp) (by simp) (by
      obtain ⟨es, clock, hb, Ft, hs, hD⟩ := hown
      exact ⟨es, clock, (Below.heap_alloc _ _ ml hbl).trans hb, Ft, hs, hD⟩)
  have hsorts : AnyZ.SortsIn Tryz.prog Tryz.l190_ren Fence.wide (5 - 1) :=
    ⟨fun blk off cap ss W hH hblk hsz => callsIn_wide.2 (Any.slices_Sort_string Tryz.l245 blk off cap ss W hH hblk hsz),
     fun p cap W => callsIn_wide.2 (Any.slices_Sort_string_none Tryz.l245 p cap W)⟩
  have cK : Hid (∀ mb W, Calls Tryz.prog 191 #[.map mb] W fun e w' => e = .returned (.func (.func 246) #[] #[.pointer (some ⟨W.heap.size, 0, none⟩)]) ∧ w' = W.alloc (.cells #[.map mb] 133)) := Lib.hid fun mb W => callsIn_wide.1 (AnyZ.keys_in Tryz.l191 Fence.wide 5 trivial rfl mb W)
  have cS0 := callsIn_wide.1 (AnyZ.sorted_in Tryz.l190 Fence.wide 5 trivial trivial trivial trivial rfl (by omega) hsorts (enters_of Tryz.func245 (by kernel_rfl) rfl) 246 #[.pointer (some ⟨W.heap.size, 0, none⟩)] trivial (enters_of Tryz.func246 (by kernel_rfl) rfl) _ _ hmax hbytes _ hseq)
  have B1 : Below W.heap.size W (W.alloc (.cells #[.map (some ml)] 133)) := (Below.refl _ _).alloc (Nat.le_refl _) _
  have cS : Hid (Calls Tryz.prog 190 #[.func (.func 246) #[] #[.pointer (some ⟨W.heap.size, 0, none⟩)]] (W.alloc (.cells #[.map (some ml)] 133)) fun e w' => ∃ A c, e = .returned (.slice A 0 c) ∧ Below W.heap.size W w') := Lib.hid (cS0.mono (by
    rintro e w' ⟨v, ss, rfl, hS, hrow, _, hb⟩
    have hss : ss = [] := by rw [hk] at hS; exact hS.eq_nil
    subst hss
    have hb2 := B1.trans (hb.mono (by simp))
    rcases hrow.2 with ⟨rfl, _⟩ | ⟨gb, cap, cur, rfl, _⟩
    · exact ⟨none, 0, rfl, hb2⟩
    · exact ⟨_, _, rfl, hb2⟩))
  clear h hm hown hsz hmax hbytes hseq hsorts cS0 B1 hbl hk
  go_enter Tryz.func127, Tryz.ntmps127
  go_wp2_with (first
    | (go_at_call 191; (with_reducible refine (cK.out _ _).mono ?_); rintro e w' ⟨rfl, rfl⟩)
    | (go_at_call 190; (with_reducible refine (cS.out).mono ?_); rintro e w' ⟨A, c, rfl, hb⟩))
  go_loopw [3, 15] (fun v3 v15 wr => v3 = .slice none 0 0 ∧ v15 = .int .i64 0 ∧ Below W.heap.size W wr) (fun _ _ _ => 0)
  case atStart => exact ⟨rfl, rfl, hb⟩
  case round =>
    obtain ⟨rfl, rfl, hb⟩ := hrel
    go_wp2_with (fail)
    go_ret
    exact ⟨rfl, hb⟩
theorem TB.keep {W W' : World} {tb ml : Nat} {epoch : Int} (h : TB W tb ml epoch) (hb : W'.heap[tb]? = W.heap[tb]?) : TB W' tb ml epoch := hb.trans h
theorem TB.lt {W : World} {tb ml : Nat} {epoch : Int} (h : TB W tb ml epoch) : tb < W.heap.size := Lg.lt_heap h
theorem TB.ne {W : World} {tb ml n : Nat} {epoch : Int} {f : ByteArray → Option Value} (h : TB W tb ml epoch) (hm : Mv.VMap W ml n f) : tb ≠ ml := fun e => by
  have hc : W.cell? ⟨tb, 0, none⟩ = some (.int .i64 10) := (cell_heap h 0).trans rfl
  exact hm.nocell hc e
abbrev noLease : Array Value := #[.string ⟨#[]⟩, .int .i64 0, .int .i64 0, .string ⟨#[]⟩, .int .i64 0, .int .i64 0]
theorem take_none (W : World) (tb ml n bx : Nat) (epoch : Int) (h : TB W tb ml epoch) (hm : Mv.VMap W ml n NoM) (hn : n ≤ 1000000) : Calls Tryz.prog 64 #[.pointer (some ⟨tb, 0, none⟩), .func (.func 73) #[] #[.pointer (some ⟨bx, 0, none⟩)]] W fun e w' => e = .returned (.slice none 0 0) ∧ Below W.heap.size W w' := by
  have L := Lib.hid (llist_none W tb ml n epoch h hm hn)
  clear h hm
  go_enter Tryz.func64, Tryz.ntmps64
  go_wp2_with (go_at_call 127; (with_reducible refine (L.out).mono ?_); rintro e w1 ⟨rfl, hb⟩)
  go_loopw [5, 11] (fun v5 v0 wr => v5 = .slice none 0 0 ∧ v0 = .int .i64 0 ∧ Below W.heap.size W wr) (fun _ _ _ => 0)
  case atStart => exact ⟨rfl, rfl, hb⟩
  case round =>
    obtain ⟨rfl, rfl, hb⟩ := hrel
    go_wp2_with (fail)
    go_ret
    exact ⟨rfl, hb⟩
theorem expire_none (W : World) (tb ml n : Nat) (epoch now : Int) (h : TB W tb ml epoch) (hm : Mv.VMap W ml n NoM) (hn : n ≤ 1000000) : Calls Tryz.prog 39 #[.pointer (some ⟨tb, 0, none⟩), .int .i64 now] W fun e w' => e = .returned (.slice none 0 0) ∧ Below W.heap.size W w' := by
  have B0 : Below W.heap.size W (W.alloc (.cells #[.int .i64 now] 3)) := (Below.refl _ _).alloc (Nat.le_refl _) _
  have T := Lib.hid ((take_none (W.alloc (.cells #[.int .i64 now] 3)) tb ml n W.heap.size epoch (h.keep (B0.block _ h.lt)) (hm.later B0) hn).mono (R' := fun e w' => e = .returned (.slice none 0 0) ∧ Below W.heap.size W w') (fun e w' hh => ⟨hh.1, B0.trans (hh.2.mono B0.size)⟩))
  have hmf : ∀ (fn : Fn) (first cap : Array Value) (w : World), (Instr.makeFunc fn first cap).run Tryz.prog w = .ok (.func fn first cap) w := fun _ _ _ _ => rfl
  clear h hm B0
  go_enter Tryz.func39, Tryz.ntmps39
  go_wp2_with (go_at_call 64; (with_reducible refine (T.out).mono ?_); rintro e w1 ⟨rfl, hb⟩)
  go_ret
  exact ⟨rfl, hb⟩
theorem time_yes (W : World) : Calls Tryz.prog 54 #[.int .i64 2] W fun e w' => e = .returned (.bool true) ∧ W = w' := by
  go_enter Tryz.func54, Tryz.ntmps54
  go_wp2_with (fail)
  go_ret
  exact ⟨rfl, rfl⟩
theorem find_yes (W : World) (tb ml n : Nat) (epoch : Int) (K wk : ByteArray) (h : TB W tb ml epoch) (hm : Mv.VMap W ml n (Mv.putM NoM K (leaseV K wk))) (hK : K.size ≤ maxLen) : Calls Tryz.prog 74 #[.pointer (some ⟨tb, 0, none⟩), .string K, .int .i64 1] W fun e w' => e = .returned (.tuple #[leaseV K wk, .int .i64 0]) ∧ Below W.heap.size W w' := by
  obtain ⟨W0, e0⟩ : ∃ W0, W0 = W.alloc (.cells noLease 60) := ⟨_, rfl⟩
  have B0 : Below W.heap.size W W0 := by rw [e0]; exact (Below.refl _ _).alloc (Nat.le_refl _) _
  have z0 : W0.heap[W.heap.size]? = some (.cells noLease 60 (0, 0)) := by rw [e0]; exact heap_alloc_new _ _
  have k1 := h.keep (B0.block _ h.lt)
  have c2 : W0.cell? ⟨tb, 2, none⟩ = some (.map (some ml)) := (cell_heap k1 2).trans rfl
  have lk := (hm.later B0).look (t := 133) (e := 60) (by kernel_rfl) (z := .agg noLease) (by rfl) hK
  rw [show (Mv.putM NoM K (leaseV K wk)) K = some (leaseV K wk) from if_pos rfl] at lk
  simp only [Option.getD_some, Option.isSome_some] at lk
  have x0 := (cell_heap z0 0)
  have x1 := (cell_heap z0 1)
  have x2 := (cell_heap z0 2)
  have x3 := (cell_heap z0 3)
  have x4 := (cell_heap z0 4)
  have x5 := (cell_heap z0 5)
  have f0 := frozen_heap z0 0
  have f1 := frozen_heap z0 1
  have f2 := frozen_heap z0 2
  have f3 := frozen_heap z0 3
  have f4 := frozen_heap z0 4
  have f5 := frozen_heap z0 5
  have hlt := Lg.lt_heap z0
  have hne : W.heap.size ≠ W0.heap.size := by omega
  have HZ := Lib.hid z0
  have HB := Lib.hid B0
  clear h hm k1 z0 B0
  go_enter Tryz.func74, Tryz.ntmps74
  go_upto_region 1 with (fail)
  rw [← e0]
  clear e0
  go_wp2_with (fail)
  have r6 := heap_set (off := 5) (v := .int .i64 12) (heap_set (off := 4) (v := .int .i64 1) (heap_set (off := 3) (v := .string wk) (heap_set (off := 2) (v := .int .i64 1) (heap_set (off := 1) (v := .int .i64 0) (heap_set (off := 0) (v := .string K) HZ.out)))))
  have b6 : Below W.heap.size W ((((((W0.setCell ⟨W.heap.size, 0, none⟩ (.string K)).setCell ⟨W.heap.size, 1, none⟩ (.int .i64 0)).setCell ⟨W.heap.size, 2, none⟩ (.int .i64 1)).setCell ⟨W.heap.size, 3, none⟩ (.string wk)).setCell ⟨W.heap.size, 4, none⟩ (.int .i64 1)).setCell ⟨W.heap.size, 5, none⟩ (.int .i64 12)) := (((((HB.out.setCell (Nat.le_refl _) _).setCell (Nat.le_refl _) _).setCell (Nat.le_refl _) _).setCell (Nat.le_refl _) _).setCell (Nat.le_refl _) _).setCell (Nat.le_refl _) _
  refine bodyPost_ret_by (Lg.results_cell_row2 rfl _ _ W.heap.size 60 _ (0, 0) _ rfl ((Below.heap_alloc _ _ _ (Lg.lt_heap r6)).trans r6) rfl rfl (by kernel_rfl)) rfl ?_
  exact ⟨rfl, b6.alloc b6.size _⟩
theorem lfinish_yes (W : World) (tb ml n : Nat) (epoch : Int) (K wk : ByteArray) (h : TB W tb ml epoch) (hm : Mv.VMap W ml n (Mv.putM NoM K (leaseV K wk))) (hK : K.size ≤ maxLen) : Calls Tryz.prog 40 #[.pointer (some ⟨tb, 0, none⟩), .string K, .int .i64 1] W fun e w' => e = .returned (.int .i64 0) ∧ TB w' tb ml epoch ∧ Mv.VMap w' ml n NoM ∧ Kp (fun k => k = ml) W w' := by
  have F := Lib.hid (find_yes W tb ml n epoch K wk h hm hK)
  have CW : Hid (∀ w1, Below W.heap.size W w1 → (w1.alloc (.cells #[.string K, .int .i64 0, .int .i64 1, .string wk, .int .i64 1, .int .i64 12] 60)).cell? ⟨tb, 2, none⟩ = some (.map (some ml)) ∧ ∃ w2, (Builtin.delete_ #[133, 9] 0 #[.map (some ml), .string K]).run Tryz.prog (w1.alloc (.cells #[.string K, .int .i64 0, .int .i64 1, .string wk, .int .i64 1, .int .i64 12] 60)) = .ok (.tuple #[]) w2 ∧ TB w2 tb ml epoch ∧ Mv.VMap w2 ml n NoM ∧ Kp (fun k => k = ml) W w2) := Lib.hid fun w1 hb => by
    have hb2 : Below W.heap.size W (w1.alloc (.cells #[.string K, .int .i64 0, .int .i64 1, .string wk, .int .i64 1, .int .i64 12] 60)) := hb.alloc hb.size _
    have h2 := h.keep (hb2.block _ h.lt)
    obtain ⟨w2, hrun, hm2, hg⟩ := (hm.later hb2).del (t := 133) (e := 60) (by kernel_rfl) hK 0
    rw [del_put] at hm2
    exact ⟨(cell_heap h2 2).trans rfl, w2, hrun, h2.keep (hg.block _ h2.lt (fun e => by injection e with e; exact h.ne hm e)), hm2, (Kp.of_below hb2).grown hg (fun k e => .inl (by injection e with e; exact e.symm))⟩
  clear h hm
  go_enter Tryz.func40, Tryz.ntmps40
  go_wp2_with (go_at_call 74; (with_reducible refine (F.out).mono ?_); rintro e w1 ⟨rfl, hb1⟩; obtain ⟨c2, w2, hrun, t2, m2, k2⟩ := CW.out w1 hb1; have T2 := Lib.hid t2; have M2 := Lib.hid m2; have K2 := Lib.hid k2; clear t2 m2 k2 CW)
  go_ret
  exact ⟨rfl, T2.out, M2.out, K2.out⟩
def GrantSays (W : World) (tb ml n : Nat) (K wk : ByteArray) (e : Ending) (w' : World) : Prop := e = .returned (.tuple #[leaseV K wk, .int .i64 0]) ∧ TB w' tb ml 1 ∧ Mv.VMap w' ml (n + 1) (Mv.putM NoM K (leaseV K wk)) ∧ Kp (fun k => k = tb ∨ k = ml) W w'
set_option maxHeartbeats 1000000 in
theorem grant_any (W : World) (tb ml n : Nat) (K wk : ByteArray) (h : TB W tb ml 0) (hm : Mv.VMap W ml n NoM) (hn : n < maxLen) (hK : K.size ≤ maxLen) (hw : wk.size ≤ 1000000000) (hw2 : Lg.nameE (Lg.tl wk) = 0) : Calls Tryz.prog 31 #[.pointer (some ⟨tb, 0, none⟩), .agg #[.string K, .int .i64 0, .int .i64 1], .string wk, .int .i64 2] W (GrantSays W tb ml n K wk) := by
  have PN : Hid (∀ W, Calls Tryz.prog 33 #[.string wk] W fun e w' => e = .returned (.int .i64 0) ∧ W = w') := Lib.hid fun W => by
    have := Lg.pname_any wk hw W
    rw [hw2] at this
    exact this
  have TM := Lib.hid time_yes
  obtain ⟨W0, e0⟩ : ∃ W0, W0 = (W.alloc (.cells #[.string K, .int .i64 0, .int .i64 1] 58)).alloc (.cells noLease 60) := ⟨_, rfl⟩
  have B0 : Below W.heap.size W W0 := by rw [e0]; exact ((Below.refl _ _).alloc (Nat.le_refl _) _).alloc (by simp) _
  have s0 : W0.heap.size = W.heap.size + 2 := by rw [e0]; simp
  have j0 : W0.heap[W.heap.size]? = some (.cells #[.string K, .int .i64 0, .int .i64 1] 58 (0, 0)) := by rw [e0]; exact Lg.heap_two
  have z0 : W0.heap[W.heap.size + 1]? = some (.cells noLease 60 (0, 0)) := by rw [e0]; exact heap_alloc2_new W _ _
  have k0 := h.keep (B0.block _ h.lt)
  have m0 := hm.later B0
  have c2 : W0.cell? ⟨tb, 2, none⟩ = some (.map (some ml)) := (cell_heap k0 2).trans rfl
  have q0 : W0.cell? ⟨W.heap.size, 0, none⟩ = some (.string K) := (cell_heap j0 0).trans rfl
  have lk := (show Mv.VMap W0.drew ml n NoM from m0.keep rfl).look (t := 133) (e := 60) (by kernel_rfl) (z := .agg noLease) (by rfl) hK
  simp only [NoM, Option.getD_none, Option.isSome_none] at lk
  have lkA := fun o => (show Mv.VMap (W0.alloc o).drew ml n NoM from m0.later (((Below.refl _ _).alloc (Nat.le_refl _) o).drew)).look (t := 133) (e := 60) (by kernel_rfl) (z := .agg noLease) (by rfl) hK
  simp only [NoM, Option.getD_none, Option.isSome_none] at lkA
  have c2A : ∀ o, (W0.alloc o).cell? ⟨tb, 2, none⟩ = some (.map (some ml)) := fun o => (World.cell?_alloc_lt W0 o ⟨tb, 2, none⟩ k0.lt).trans c2
  have q0A : ∀ o, (W0.alloc o).cell? ⟨W.heap.size, 0, none⟩ = some (.string K) := fun o => (World.cell?_alloc_lt W0 o ⟨W.heap.size, 0, none⟩ (Lg.lt_heap j0)).trans q0
  have ht0 := k0.lt
  have hj0 := Lg.lt_heap j0
  have hz0 := Lg.lt_heap z0
  have HK0 := Lib.hid k0
  have HM0 := Lib.hid m0
  have HJ0 := Lib.hid j0
  have HZ0 := Lib.hid z0
  have HB0 := Lib.hid B0
  have HS0 := Lib.hid s0
  have HNE := Lib.hid (h.ne hm)
  have hlt := h.lt
  clear h hm B0 s0 j0 z0 k0 m0
  go_enter Tryz.func31, Tryz.ntmps31
  go_upto_region 1 with (fail)
  rw [← e0]
  clear e0
  go_upto_region 8 with (first
    | (go_at_call 33; (with_reducible refine (PN.out _).mono ?_); rintro e w' ⟨rfl, rfl⟩)
    | (go_at_call 54; (with_reducible refine (TM.out _).mono ?_); rintro e w' ⟨rfl, rfl⟩))
  go_region
  simp only [Exit.then]
  obtain ⟨W8, e8⟩ : ∃ W8, W8 = (W0.alloc (.cells noLease 60)).drew := ⟨_, rfl⟩
  have B8 : Below W0.heap.size W0 W8 := by rw [e8]; exact ((Below.refl _ _).alloc (Nat.le_refl _) _).drew
  rw [← e8]
  clear e8 lk lkA c2A q0A c2 q0
  have k8 := HK0.out.keep (B8.block _ ht0)
  have c1 : W8.cell? ⟨tb, 1, none⟩ = some (.int .i64 0) := (cell_heap k8 1).trans rfl
  have f1 := frozen_heap k8 1
  have h8 := B8.size
  go_upto_region 12 with (fail)
  obtain ⟨W9, e9⟩ : ∃ W9, W9 = W8.setCell ⟨tb, 1, none⟩ (.int .i64 1) := ⟨_, rfl⟩
  rw [← e9]
  have hb0 := HB0.out.size
  have k9 : TB W9 tb ml 1 := by rw [e9]; exact (heap_set k8).trans rfl
  have j9 : W9.heap[W.heap.size]? = some (.cells #[.string K, .int .i64 0, .int .i64 1] 58 (0, 0)) := by rw [e9]; exact (heap_set_ne (by omega)).trans ((B8.block _ hj0).trans HJ0.out)
  have z9 : W9.heap[W.heap.size + 1]? = some (.cells noLease 60 (0, 0)) := by rw [e9]; exact (heap_set_ne (by omega)).trans ((B8.block _ hz0).trans HZ0.out)
  have m9 : Mv.VMap W9 ml n NoM := by rw [e9]; exact (HM0.out.later B8).keep (heap_set_ne HNE.out)
  have K9 : Kp (fun k => k = tb ∨ k = ml) W W9 := by rw [e9]; exact (Kp.of_below (HB0.out.trans (B8.mono hb0))).setCell (p := ⟨tb, 1, none⟩) (.inl rfl) _
  clear e9 c1 f1 k8 B8
  have d0 : W9.cell? ⟨tb, 0, none⟩ = some (.int .i64 10) := (cell_heap k9 0).trans rfl
  have d1 : W9.cell? ⟨tb, 1, none⟩ = some (.int .i64 1) := (cell_heap k9 1).trans rfl
  have p0 : W9.cell? ⟨W.heap.size, 0, none⟩ = some (.string K) := (cell_heap j9 0).trans rfl
  have p1 : W9.cell? ⟨W.heap.size, 1, none⟩ = some (.int .i64 0) := (cell_heap j9 1).trans rfl
  have p2 : W9.cell? ⟨W.heap.size, 2, none⟩ = some (.int .i64 1) := (cell_heap j9 2).trans rfl
  have ht9 := k9.lt
  have hj9 := Lg.lt_heap j9
  have AL := fun (o : Obj) (a : Addr) (ha : a.block < W9.heap.size) => World.cell?_alloc_lt W9 o a ha
  have d0A : ∀ o, (W9.alloc o).cell? ⟨tb, 0, none⟩ = some (.int .i64 10) := fun o => (AL o _ ht9).trans d0
  have d1A : ∀ o, (W9.alloc o).cell? ⟨tb, 1, none⟩ = some (.int .i64 1) := fun o => (AL o _ ht9).trans d1
  have p0A : ∀ o, (W9.alloc o).cell? ⟨W.heap.size, 0, none⟩ = some (.string K) := fun o => (AL o _ hj9).trans p0
  have p1A : ∀ o, (W9.alloc o).cell? ⟨W.heap.size, 1, none⟩ = some (.int .i64 0) := fun o => (AL o _ hj9).trans p1
  have p2A : ∀ o, (W9.alloc o).cell? ⟨W.heap.size, 2, none⟩ = some (.int .i64 1) := fun o => (AL o _ hj9).trans p2
  have HK9 := Lib.hid k9
  have HJ9 := Lib.hid j9
  have HZ9 := Lib.hid z9
  have HM9 := Lib.hid m9
  have HKp := Lib.hid K9
  clear AL k9 j9 z9 m9 K9
  go_region
  simp only [Exit.then]
  obtain ⟨V, eV⟩ : ∃ V, V = (W9.alloc (.cells #[.string K, .int .i64 0, .int .i64 1, .string wk, .int .i64 1, .int .i64 12] 60)).drew := ⟨_, rfl⟩
  have BV : Below W9.heap.size W9 V := by rw [eV]; exact ((Below.refl _ _).alloc (Nat.le_refl _) _).drew
  have xV : V.heap[W9.heap.size]? = some (.cells #[.string K, .int .i64 0, .int .i64 1, .string wk, .int .i64 1, .int .i64 12] 60 (0, 0)) := by rw [eV]; exact heap_alloc_new W9 _
  rw [← eV]
  clear eV d0A d1A p0A p1A p2A d0 d1 p0 p1 p2
  have kV := HK9.out.keep (BV.block _ ht9)
  have jV := (BV.block _ hj9).trans HJ9.out
  have zV := (BV.block _ (Lg.lt_heap HZ9.out)).trans HZ9.out
  have mV := HM9.out.later BV
  have d2 : V.cell? ⟨tb, 2, none⟩ = some (.map (some ml)) := (cell_heap kV 2).trans rfl
  have p0 : V.cell? ⟨W.heap.size, 0, none⟩ = some (.string K) := (cell_heap jV 0).trans rfl
  have x0 := cell_heap xV 0
  have x1 := cell_heap xV 1
  have x2 := cell_heap xV 2
  have x3 := cell_heap xV 3
  have x4 := cell_heap xV 4
  have x5 := cell_heap xV 5
  obtain ⟨W11, hrun, m11, hg⟩ := (show Mv.VMap V.drew ml n NoM from mV.keep rfl).put (t := 133) (e := 60) (by kernel_rfl) hn hK (leaseV K wk)
  have k11 := (show TB V.drew tb ml 1 from kV).keep (hg.block _ kV.lt (fun e => by injection e with e; exact HNE.out e))
  have lxV := Lg.lt_heap xV
  have x11 := (hg.block _ lxV (fun e => by injection e with e; have := HM9.out.lt; omega)).trans (show V.drew.heap[W9.heap.size]? = _ from xV)
  have z11 := (hg.block _ (Lg.lt_heap zV) (fun e => by injection e with e; subst e; exact (HM9.out.nocell (cell_heap HZ9.out 0)) rfl)).trans (show V.drew.heap[W.heap.size + 1]? = _ from zV)
  have K11 : Kp (fun k => k = tb ∨ k = ml) W W11 := ((HKp.out.then BV).drew).grown hg (fun k e => .inl (.inr (by injection e with e; exact e.symm)))
  have y0 := cell_heap x11 0
  have y1 := cell_heap x11 1
  have y2 := cell_heap x11 2
  have y3 := cell_heap x11 3
  have y4 := cell_heap x11 4
  have y5 := cell_heap x11 5
  have r0 := cell_heap z11 0
  have r1 := cell_heap z11 1
  have r2 := cell_heap z11 2
  have r3 := cell_heap z11 3
  have r4 := cell_heap z11 4
  have r5 := cell_heap z11 5
  have g0 := frozen_heap z11 0
  have g1 := frozen_heap z11 1
  have g2 := frozen_heap z11 2
  have g3 := frozen_heap z11 3
  have g4 := frozen_heap z11 4
  have g5 := frozen_heap z11 5
  have hz9 := Lg.lt_heap HZ9.out
  have HX := Lib.hid k11
  have HM := Lib.hid m11
  have HZ := Lib.hid z11
  have HK := Lib.hid K11
  have hml := HM9.out.lt
  have hne1 : W.heap.size + 1 ≠ tb := by omega
  have hne2 := HM9.out.nocell (cell_heap HZ9.out 0)
  clear kV jV zV mV xV BV x11 z11 k11 m11 K11 hg
  go_wp2_with (fail)
  go_region
  simp only [Exit.then]
  clear hrun
  go_wp2_with (fail)
  have r6 := heap_set (off := 5) (v := .int .i64 12) (heap_set (off := 4) (v := .int .i64 1) (heap_set (off := 3) (v := .string wk) (heap_set (off := 2) (v := .int .i64 1) (heap_set (off := 1) (v := .int .i64 0) (heap_set (off := 0) (v := .string K) HZ.out)))))
  have o6 : ∀ k, k ≠ W.heap.size + 1 → ((((((W11.setCell ⟨W.heap.size + 1, 0, none⟩ (.string K)).setCell ⟨W.heap.size + 1, 1, none⟩ (.int .i64 0)).setCell ⟨W.heap.size + 1, 2, none⟩ (.int .i64 1)).setCell ⟨W.heap.size + 1, 3, none⟩ (.string wk)).setCell ⟨W.heap.size + 1, 4, none⟩ (.int .i64 1)).setCell ⟨W.heap.size + 1, 5, none⟩ (.int .i64 12)).heap[k]? = W11.heap[k]? := fun k hk => by
    have e : W.heap.size + 1 ≠ k := fun e => hk e.symm
    rw [heap_set_ne e, heap_set_ne e, heap_set_ne e, heap_set_ne e, heap_set_ne e, heap_set_ne e]
  refine bodyPost_ret_by (Lg.results_cell_row2 rfl _ _ (W.heap.size + 1) 60 _ (0, 0) _ rfl r6 rfl rfl (by kernel_rfl)) rfl ?_
  have hs1 : W.heap.size ≤ W.heap.size + 1 := Nat.le_succ _
  exact ⟨rfl, HX.out.keep (o6 _ (fun e => hne1 e.symm)), HM.out.keep (o6 _ (fun e => hne2 e.symm)), (((((HK.out.setNew (p := ⟨W.heap.size + 1, 0, none⟩) hs1 _).setNew (p := ⟨W.heap.size + 1, 1, none⟩) hs1 _).setNew (p := ⟨W.heap.size + 1, 2, none⟩) hs1 _).setNew (p := ⟨W.heap.size + 1, 3, none⟩) hs1 _).setNew (p := ⟨W.heap.size + 1, 4, none⟩) hs1 _).setNew (p := ⟨W.heap.size + 1, 5, none⟩) hs1 _⟩
end Go.Proofs.YtifiipmmgnmciaaGreatDoor.Sv
/- SvSched, what a claim needs of it (prune.py). -/
namespace Go.Proofs.YtifiipmmgnmciaaGreatDoor.Sv
open Go.RowKit Go.Maps
open Dk (Kp)
set_option linter.unusedVariables false
set_option maxRecDepth 100000
structure Sb where
  sc : Nat
  q : Nat
  tb : Nat
  mr : Nat
  mt : Nat
  ml : Nat
structure ScAt (W : World) (s : Sb) (k : Nat) (epoch : Int) (rows there lease : ByteArray → Option Value) : Prop where
  st : W.heap[s.sc]? = some (.cells #[.pointer (some ⟨s.q, 0, none⟩), .pointer (some ⟨s.tb, 0, none⟩), .map (some s.mr), .map (some s.mt)] 86 (0, 0))
  tab : TB W s.tb s.ml epoch
  rows : Mv.VMap W s.mr k rows
  there : Mv.VMap W s.mt k there
  lease : Mv.VMap W s.ml k lease
  n1 : s.mr ≠ s.mt
  n2 : s.mr ≠ s.ml
  n3 : s.mt ≠ s.ml
theorem ScAt.keep {W W' : World} {s : Sb} {k : Nat} {epoch : Int} {rows there lease : ByteArray → Option Value} (h : ScAt W s k epoch rows there lease) (h1 : W'.heap[s.sc]? = W.heap[s.sc]?) (h2 : W'.heap[s.tb]? = W.heap[s.tb]?) (h3 : W'.heap[s.mr]? = W.heap[s.mr]?) (h4 : W'.heap[s.mt]? = W.heap[s.mt]?) (h5 : W'.heap[s.ml]? = W.heap[s.ml]?) : ScAt W' s k epoch rows there lease :=
  ⟨h1.trans h.st, h.tab.keep h2, h.rows.keep h3, h.there.keep h4, h.lease.keep h5, h.n1, h.n2, h.n3⟩
theorem ScAt.lt {W : World} {s : Sb} {k : Nat} {epoch : Int} {rows there lease : ByteArray → Option Value} (h : ScAt W s k epoch rows there lease) : s.sc < W.heap.size ∧ s.tb < W.heap.size ∧ s.mr < W.heap.size ∧ s.mt < W.heap.size ∧ s.ml < W.heap.size := ⟨Lg.lt_heap h.st, h.tab.lt, h.rows.lt, h.there.lt, h.lease.lt⟩
theorem ScAt.kp {S : Nat → Prop} {W W' : World} {s : Sb} {k : Nat} {epoch : Int} {rows there lease : ByteArray → Option Value} (h : ScAt W s k epoch rows there lease) (hk : Kp S W W') (hS : ∀ j, S j → j ≠ s.sc ∧ j ≠ s.tb ∧ j ≠ s.mr ∧ j ≠ s.mt ∧ j ≠ s.ml) : ScAt W' s k epoch rows there lease := by
  obtain ⟨l1, l2, l3, l4, l5⟩ := h.lt
  exact h.keep (hk.block _ l1 (fun e => (hS _ e).1 rfl)) (hk.block _ l2 (fun e => (hS _ e).2.1 rfl)) (hk.block _ l3 (fun e => (hS _ e).2.2.1 rfl)) (hk.block _ l4 (fun e => (hS _ e).2.2.2.1 rfl)) (hk.block _ l5 (fun e => (hS _ e).2.2.2.2 rfl))
theorem ScAt.below {W W' : World} {s : Sb} {k : Nat} {epoch : Int} {rows there lease : ByteArray → Option Value} (h : ScAt W s k epoch rows there lease) (hb : Below W.heap.size W W') : ScAt W' s k epoch rows there lease := by
  obtain ⟨l1, l2, l3, l4, l5⟩ := h.lt
  exact h.keep (hb.block _ l1) (hb.block _ l2) (hb.block _ l3) (hb.block _ l4) (hb.block _ l5)
def ScS (s : Sb) : Nat → Prop := fun k => k = s.q ∨ k = s.tb ∨ k = s.mr ∨ k = s.mt ∨ k = s.ml
theorem ScAt.sc_ne {W : World} {s : Sb} {k : Nat} {epoch : Int} {rows there lease : ByteArray → Option Value} (h : ScAt W s k epoch rows there lease) : s.sc ≠ s.tb ∧ s.sc ≠ s.mr ∧ s.sc ≠ s.mt ∧ s.sc ≠ s.ml ∧ s.tb ≠ s.mr ∧ s.tb ≠ s.mt ∧ s.tb ≠ s.ml := by
  have hc : W.cell? ⟨s.sc, 0, none⟩ = some (.pointer (some ⟨s.q, 0, none⟩)) := (cell_heap h.st 0).trans rfl
  have ht : W.cell? ⟨s.tb, 0, none⟩ = some (.int .i64 10) := (cell_heap h.tab 0).trans rfl
  refine ⟨fun e => ?_, h.rows.nocell hc, h.there.nocell hc, h.lease.nocell hc, h.rows.nocell ht, h.there.nocell ht, h.lease.nocell ht⟩
  have h2 : W.heap[s.tb]? = _ := h.tab
  rw [← e, h.st] at h2
  injection h2 with h2
  injection h2 with _ h2 _
  exact absurd h2 (by decide)
theorem q_ne {W : World} {s : Sb} {k : Nat} {epoch nth : Int} {A : Option Addr} {n c : Nat} {rows there lease : ByteArray → Option Value} (h : ScAt W s k epoch rows there lease) (hq : QB W s.q nth A n c) : s.q ≠ s.sc ∧ s.q ≠ s.tb ∧ s.q ≠ s.mr ∧ s.q ≠ s.mt ∧ s.q ≠ s.ml := by
  have hc : W.cell? ⟨s.q, 0, none⟩ = some (.int .i64 20) := (cell_heap hq 0).trans rfl
  have hq' : W.heap[s.q]? = _ := hq
  refine ⟨fun e => ?_, fun e => ?_, h.rows.nocell hc, h.there.nocell hc, h.lease.nocell hc⟩
  · rw [e, h.st] at hq'
    injection hq' with h2
    injection h2 with _ h2 _
    exact absurd h2 (by decide)
  · have h2 : W.heap[s.tb]? = _ := h.tab
    rw [← e, hq'] at h2
    injection h2 with h2
    injection h2 with _ h2 _
    exact absurd h2 (by decide)
theorem put_put (f : ByteArray → Option Value) (K : ByteArray) (u v : Value) : Mv.putM (Mv.putM f K u) K v = Mv.putM f K v := funext fun s => by
  unfold Mv.putM
  by_cases h : s = K
  · rw [if_pos h, if_pos h]
  · rw [if_neg h, if_neg h, if_neg h]
theorem put_at (f : ByteArray → Option Value) (K : ByteArray) (v : Value) : Mv.putM f K v K = some v := if_pos rfl
abbrev rowM (wk : ByteArray) (A : Option Addr) (c : Nat) : ByteArray → Option Value := Mv.putM NoM wk (.slice A 0 c)
def sbN (n : Nat) : Sb := ⟨n + 5, n, n + 2, n + 3, n + 4, n + 1⟩
def SNewSays (W : World) (e : Ending) (w' : World) : Prop := e = .returned (.tuple #[.pointer (some ⟨W.heap.size + 5, 0, none⟩), .int .i64 0]) ∧ ScAt w' (sbN W.heap.size) 0 0 NoM NoM NoM ∧ QB w' W.heap.size 0 none 0 0 ∧ Below W.heap.size W w' ∧ w'.heap.size = W.heap.size + 6
theorem alloc_next {W : World} {o : Obj} {n : Nat} (h : W.heap.size = n) : (W.alloc o).heap[n]? = some o ∧ (W.alloc o).heap.size = n + 1 ∧ Below n W (W.alloc o) := by
  subst h
  exact ⟨heap_alloc_new W o, by simp, (Below.refl _ _).alloc (Nat.le_refl _) o⟩
theorem snew_any (W : World) : Calls Tryz.prog 46 #[.int .i64 20, .int .i64 10] W (SNewSays W) := by
  have QN := Lib.hid qnew_any
  have LN := Lib.hid lnew_any
  have hmm := @run_makeMap Tryz.prog
  have FN : Hid (∀ w6, w6 = ((((((W.alloc (.cells #[.int .i64 20, .int .i64 0, .slice none 0 0] 231)).alloc (.map #[] 0)).alloc (.cells #[.int .i64 10, .int .i64 0, .map (some (W.heap.size + 1))] 135)).alloc (.map #[] 0)).alloc (.map #[] 0)).alloc (.cells #[.pointer (some ⟨W.heap.size, 0, none⟩), .pointer (some ⟨W.heap.size + 2, 0, none⟩), .map (some (W.heap.size + 3)), .map (some (W.heap.size + 4))] 86)) → SNewSays W (.returned (.tuple #[.pointer (some ⟨W.heap.size + 5, 0, none⟩), .int .i64 0])) w6) := Lib.hid fun w6 e6 => by
    obtain ⟨n, hn⟩ : ∃ n, n = W.heap.size := ⟨_, rfl⟩
    rw [← hn] at e6 ⊢
    unfold SNewSays
    rw [← hn]
    obtain ⟨w1, e1⟩ : ∃ w1, w1 = W.alloc (.cells #[.int .i64 20, .int .i64 0, .slice none 0 0] 231) := ⟨_, rfl⟩
    obtain ⟨p1, z1, b1⟩ := alloc_next (W := W) (o := .cells #[.int .i64 20, .int .i64 0, .slice none 0 0] 231) hn.symm
    rw [← e1] at e6 p1 z1 b1
    obtain ⟨w2, e2⟩ : ∃ w2, w2 = w1.alloc (.map #[] 0) := ⟨_, rfl⟩
    obtain ⟨_, z2, b2⟩ := alloc_next (W := w1) (o := .map #[] 0) z1
    have m2 := Mv.VMap.made w1
    rw [z1] at m2
    rw [← e2] at e6 m2 z2 b2
    obtain ⟨w3, e3⟩ : ∃ w3, w3 = w2.alloc (.cells #[.int .i64 10, .int .i64 0, .map (some (n + 1))] 135) := ⟨_, rfl⟩
    obtain ⟨p3, z3, b3⟩ := alloc_next (W := w2) (o := .cells #[.int .i64 10, .int .i64 0, .map (some (n + 1))] 135) z2
    rw [← e3] at e6 p3 z3 b3
    obtain ⟨w4, e4⟩ : ∃ w4, w4 = w3.alloc (.map #[] 0) := ⟨_, rfl⟩
    obtain ⟨_, z4, b4⟩ := alloc_next (W := w3) (o := .map #[] 0) z3
    have m4 := Mv.VMap.made w3
    rw [z3] at m4
    rw [← e4] at e6 m4 z4 b4
    obtain ⟨w5, e5⟩ : ∃ w5, w5 = w4.alloc (.map #[] 0) := ⟨_, rfl⟩
    obtain ⟨_, z5, b5⟩ := alloc_next (W := w4) (o := .map #[] 0) z4
    have m5 := Mv.VMap.made w4
    rw [z4] at m5
    rw [← e5] at e6 m5 z5 b5
    obtain ⟨p6, z6, b6⟩ := alloc_next (W := w5) (o := .cells #[.pointer (some ⟨n, 0, none⟩), .pointer (some ⟨n + 2, 0, none⟩), .map (some (n + 3)), .map (some (n + 4))] 86) z5
    rw [← e6] at p6 z6 b6
    have B5 : Below (n + 5) w5 w6 := b6
    have B4 : Below (n + 4) w4 w6 := b5.trans (B5.mono (by omega))
    have B3 : Below (n + 3) w3 w6 := b4.trans (B4.mono (by omega))
    have B2 : Below (n + 2) w2 w6 := b3.trans (B3.mono (by omega))
    have B1 : Below (n + 1) w1 w6 := b2.trans (B2.mono (by omega))
    exact ⟨rfl, ⟨p6, (B3.block _ (by show n + 2 < n + 3; omega)).trans p3, m4.keep (B4.block _ (by show n + 3 < n + 4; omega)), m5.keep (B5.block _ (by show n + 4 < n + 5; omega)), m2.keep (B2.block _ (by show n + 1 < n + 2; omega)), by show n + 3 ≠ n + 4; omega, by show n + 3 ≠ n + 1; omega, by show n + 4 ≠ n + 1; omega⟩, (B1.block _ (by omega)).trans p1, b1.trans (B1.mono (by omega)), z6⟩
  generalize SNewSays W = Q at *
  go_enter Tryz.func46, Tryz.ntmps46
  go_wp2_with (first
    | (go_at_call 82; (with_reducible refine (QN.out _).mono ?_); rintro e w1 ⟨rfl, rfl⟩)
    | (go_at_call 83; (with_reducible refine (LN.out _).mono ?_); rintro e w2 ⟨rfl, rfl⟩))
  exact FN.out _ rfl
theorem again_none (W : World) (sc : Nat) : Calls Tryz.prog 34 #[.pointer (some ⟨sc, 0, none⟩), .slice none 0 0] W fun e w' => e = .returned (.tuple #[]) ∧ W = w' := by
  go_enter Tryz.func34, Tryz.ntmps34
  go_wp2_with (fail)
  go_loopw [8] (fun v0 wr => v0 = .int .i64 0 ∧ wr = W) (fun _ _ => 0)
  case atStart => exact ⟨rfl, rfl⟩
  case round =>
    obtain ⟨rfl, rfl⟩ := hrel
    go_wp2_with (fail)
    go_end0
    exact ⟨rfl, rfl⟩
theorem tick_none (W : World) (s : Sb) (k : Nat) (epoch now : Int) (rows there : ByteArray → Option Value) (h : ScAt W s k epoch rows there NoM) (hk : k ≤ 1000) : Calls Tryz.prog 21 #[.pointer (some ⟨s.sc, 0, none⟩), .int .i64 now] W fun e w' => e = .returned (.int .i64 0) ∧ Below W.heap.size W w' := by
  have E := Lib.hid (expire_none W s.tb s.ml k epoch now h.tab h.lease (by omega))
  have A := Lib.hid again_none
  have c1 : W.cell? ⟨s.sc, 1, none⟩ = some (.pointer (some ⟨s.tb, 0, none⟩)) := (cell_heap h.st 1).trans rfl
  clear h
  go_enter Tryz.func21, Tryz.ntmps21
  go_wp2_with (first
    | (go_at_call 39; (with_reducible refine (E.out).mono ?_); rintro e w1 ⟨rfl, hb⟩)
    | (go_at_call 34; (with_reducible refine (A.out _ _).mono ?_); rintro e w' ⟨rfl, rfl⟩))
  go_ret
  exact ⟨rfl, hb⟩
def JoinSays (W : World) (s : Sb) (k : Nat) (wk : ByteArray) (there lease : ByteArray → Option Value) (e : Ending) (w' : World) : Prop := e = .returned (.int .i64 0) ∧ ScAt w' s (k + 1) 0 (rowM wk none 0) there lease ∧ Kp (fun j => j = s.mr) W w'
theorem sjoin_any (W : World) (s : Sb) (k : Nat) (wk : ByteArray) (there lease : ByteArray → Option Value) (h : ScAt W s k 0 NoM there lease) (hk : k ≤ 1000) (hw : wk.size ≤ 1000000000) (hw2 : Lg.nameE (Lg.tl wk) = 0) : Calls Tryz.prog 18 #[.pointer (some ⟨s.sc, 0, none⟩), .string wk] W (JoinSays W s k wk there lease) := by
  have PN : Hid (∀ W, Calls Tryz.prog 33 #[.string wk] W fun e w' => e = .returned (.int .i64 0) ∧ W = w') := Lib.hid fun W => by
    have := Lg.pname_any wk hw W
    rw [hw2] at this
    exact this
  have hwm : wk.size ≤ maxLen := by unfold maxLen; omega
  have c2 : W.cell? ⟨s.sc, 2, none⟩ = some (.map (some s.mr)) := (cell_heap h.st 2).trans rfl
  have lk := h.rows.look (t := 83) (e := 79) (by kernel_rfl) (z := .slice none 0 0) (by rfl) hwm
  simp only [NoM, Option.getD_none, Option.isSome_none] at lk
  obtain ⟨W2, hput, m2, hg⟩ := h.rows.put (t := 83) (e := 79) (by kernel_rfl) (by unfold maxLen; omega) hwm (.slice none 0 0)
  obtain ⟨l1, l2, l3, l4, l5⟩ := h.lt
  obtain ⟨a1, a2, a3, a4, a5, a6, a7⟩ := h.sc_ne
  have FN : Hid (JoinSays W s k wk there lease (.returned (.int .i64 0)) W2) := Lib.hid (by
    have hb : ∀ j, j < W.heap.size → j ≠ s.mr → W2.heap[j]? = W.heap[j]? := fun j hj hne => hg.block j hj (fun e => hne (by injection e))
    exact ⟨rfl, ⟨(hb _ l1 a2).trans h.st, h.tab.keep (hb _ l2 a5), m2, (h.there.more (Nat.le_succ k)).keep (hb _ l4 h.n1.symm), (h.lease.more (Nat.le_succ k)).keep (hb _ l5 h.n2.symm), h.n1, h.n2, h.n3⟩, (Kp.refl _ _).grown hg (fun j e => .inl (by injection e with e; exact e.symm))⟩)
  clear h m2 hg l1 l2 l3 l4 l5 a1 a2 a3 a4 a5 a6 a7
  generalize JoinSays W s k wk there lease = Q at *
  go_enter Tryz.func18, Tryz.ntmps18
  go_wp2_with (go_at_call 33; (with_reducible refine (PN.out _).mono ?_); rintro e w' ⟨rfl, rfl⟩)
  exact FN.out
def FinSays (W : World) (s : Sb) (k : Nat) (rows : ByteArray → Option Value) (e : Ending) (w' : World) : Prop := e = .returned (.int .i64 0) ∧ ScAt w' s k 1 rows NoM NoM ∧ Kp (fun j => j = s.mt ∨ j = s.ml) W w'
theorem sfinish_any (W : World) (s : Sb) (k : Nat) (K wk : ByteArray) (rows : ByteArray → Option Value) (h : ScAt W s k 1 rows (Mv.putM NoM K (.bool true)) (Mv.putM NoM K (leaseV K wk))) (hK : K.size ≤ maxLen) : Calls Tryz.prog 22 #[.pointer (some ⟨s.sc, 0, none⟩), .string K, .int .i64 1] W (FinSays W s k rows) := by
  have F := Lib.hid (lfinish_yes W s.tb s.ml k 1 K wk h.tab h.lease hK)
  have c1 : W.cell? ⟨s.sc, 1, none⟩ = some (.pointer (some ⟨s.tb, 0, none⟩)) := (cell_heap h.st 1).trans rfl
  obtain ⟨l1, l2, l3, l4, l5⟩ := h.lt
  obtain ⟨a1, a2, a3, a4, a5, a6, a7⟩ := h.sc_ne
  have NX : Hid (∀ w1, TB w1 s.tb s.ml 1 → Mv.VMap w1 s.ml k NoM → Kp (fun j => j = s.ml) W w1 → w1.cell? ⟨s.sc, 3, none⟩ = some (.map (some s.mt)) ∧ ∃ w2, (Builtin.delete_ #[84, 9] 0 #[.map (some s.mt), .string K]).run Tryz.prog w1 = .ok (.tuple #[]) w2 ∧ FinSays W s k rows (.returned (.int .i64 0)) w2) := Lib.hid fun w1 t1 m1 k1 => by
    have st1 := (k1.block _ l1 a4).trans h.st
    have r1 := h.rows.keep (k1.block _ l3 h.n2)
    have th1 := h.there.keep (k1.block _ l4 h.n3)
    obtain ⟨w2, hrun, m2, hg⟩ := th1.del (t := 84) (e := 4) (by kernel_rfl) hK 0
    rw [del_put] at m2
    have hb : ∀ j, j < w1.heap.size → j ≠ s.mt → w2.heap[j]? = w1.heap[j]? := fun j hj hne => hg.block j hj (fun e => hne (by injection e))
    exact ⟨(cell_heap st1 3).trans rfl, w2, hrun, rfl, ⟨(hb _ (Lg.lt_heap st1) a3).trans st1, t1.keep (hb _ t1.lt a6), r1.keep (hb _ r1.lt h.n1), m2, m1.keep (hb _ m1.lt h.n3.symm), h.n1, h.n2, h.n3⟩, (k1.mono (fun j e => .inr e)).grown hg (fun j e => .inl (.inl (by injection e with e; exact e.symm)))⟩
  clear h l1 l2 l3 l4 l5 a1 a2 a3 a4 a5 a6 a7
  generalize FinSays W s k rows = Q at *
  go_enter Tryz.func22, Tryz.ntmps22
  go_wp2_with (go_at_call 40; (with_reducible refine (F.out).mono ?_); rintro e w1 ⟨rfl, t1, m1, k1⟩; obtain ⟨c3, w2, hrun, hQ⟩ := NX.out w1 t1 m1 k1; have HQ := Lib.hid hQ; clear t1 m1 k1 NX hQ)
  exact HQ.out
end Go.Proofs.YtifiipmmgnmciaaGreatDoor.Sv
