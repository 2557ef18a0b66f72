/- The walk of the cache's Put at int. -/
import Derived.Test.YtcifjhhofefpjaaCaIKeys
import Derived.Deep.RegionHeld3
import Derived.StillTailTactics
import Derived.Deep.AppendLies
import Derived.Laws.OwnMore
namespace Go.Proofs.Ytcifjhhofefpjaa.Ca.I
open Go.RowKit Go.Maps Go.Shelf
set_option linter.unusedVariables false
set_option maxRecDepth 100000
theorem put_nil (k : ByteArray) (v : Int) (w : World) : Calls Try.prog 9 #[.pointer none, .string k, enc v] w fun r w' => r = .returned (.int .i64 2) ∧ Below w.heap.size w w' := by
  go_enter Try.func9, Try.ntmps9
  go_wp2
  go_ret
  exact ⟨rfl, (Below.refl _ _).alloc (Nat.le_refl _) _⟩
section
variable {w : World} {B c m most t clock : Nat} {D : DataW Unit} {E Ea Eb : List (En Int)} {e : En Int}
theorem put_hit (h : Ca_ w B c m most t clock D (Ea ++ e :: Eb)) (ht : t < 1000000000) (v : Int) :
    Calls Try.prog 9 #[.pointer (some ⟨c, 0, none⟩), .string e.k, enc v] w (Says w B c m most (t + 1) (Ea.map En.th ++ Eb.map En.th ++ [⟨e.k, v, e.p⟩]) (.int .i64 0)) := by
  have he : e ∈ Ea ++ e :: Eb := by simp
  have b0 : Below w.heap.size w (w.alloc (.cells #[.pointer (some ⟨c, 0, none⟩)] 23)) := (Below.refl _ _).alloc (Nat.le_refl _) _
  obtain ⟨W0, eW0⟩ : ∃ W0, W0 = w.alloc (.cells #[.pointer (some ⟨c, 0, none⟩)] 23) := ⟨_, rfl⟩
  rw [← eW0] at b0
  have h0 := h.below b0
  have hl := h0.look_ok Try.underlying53 zP he
  have hck := h.clk
  have T := Lib.hid (tick_any c clock _ _ W0 h0.hdr (by omega))
  have h' := h0.tick hT
  have hth := h0.things e he
  have hth' := h'.things e he
  obtain ⟨W, eW⟩ : ∃ W, W = W0.setCell ⟨c, 1, none⟩ (.int .i64 ((clock : Int) + 1)) := ⟨_, rfl⟩
  rw [← eW] at h' hth' T
  have u1 := Upd.setCell hth' 0 (enc v)
  have u2 := u1.more (by rw [size_setCell]; exact Nat.le_refl _) (Upd.setCell u1.1 2 (.int .i64 ((clock : Int) + 1)))
  have hb1 : Below B w W := by rw [eW]; exact ((b0.mono (by have := heap_lt h.hdr; have := h.bc; omega))).setCell h.bc _
  have hf1 : FrC 55 60 m w W := by rw [eW]; exact (FrC.below b0).trans (FrC.updC (Upd.setCell h0.hdr 1 _) (by rw [size_setCell]; exact Nat.le_refl _) h0.hdr)
  have FIN : Hid (Says w B c m most (t + 1) (Ea.map En.th ++ Eb.map En.th ++ [⟨e.k, v, e.p⟩]) (.int .i64 0) (.returned (.int .i64 0)) ((W.setCell ⟨e.b, 0, none⟩ (enc v)).setCell ⟨e.b, 2, none⟩ (.int .i64 ((clock : Int) + 1)))) := Lib.hid (by
    refine ⟨rfl, ⟨clock + 1, D, _, h'.toEnd (v := v) (s := clock + 1) hT (Nat.le_refl _) (fun x hx => Nat.lt_succ_of_le (h.since x hx)) u2, by simp [En.th]⟩, (hb1.setCell (h.be e he) _).setCell (h.be e he) _, hf1.trans (FrC.updT u2 (by rw [size_setCell, size_setCell]; exact Nat.le_refl _) hth')⟩)
  have f0 := free_at hth' 0
  have f2 := free_at hth' 2
  have g0 : W.cell? ⟨e.b, 0, none⟩ = some (enc e.v) := (cell_at hth' 0).trans rfl
  have g2 : W.cell? ⟨e.b, 2, none⟩ = some (.int .i64 e.s) := (cell_at hth' 2).trans rfl
  have c1 : W0.cell? ⟨c, 2, none⟩ = some (.map (some m)) := (cell_at h0.hdr 2).trans rfl
  have c2 : W0.cell? ⟨w.heap.size, 0, none⟩ = some (.pointer (some ⟨c, 0, none⟩)) := by rw [eW0]; exact (cell_at (heap_alloc_new w _) 0).trans rfl
  have EW := Lib.hid eW0
  clear h h' h0 hth hth' u1 u2 eW eW0 hb1 hf1 hck he b0
  go_enter Try.func9, Try.ntmps9
  go_upto_region 1 with (fail)
  rw [← EW.out]
  go_wp2_with (go_at_call 30; ((with_reducible refine (T.out).mono ?_); rintro e w' ⟨rfl, rfl⟩))
  go_ret
  exact FIN.out
theorem CaDrewN (h : Ca_ w B c m most t clock D E) (n : Nat) : Ca_ (w.drewN n) B c m most t clock D E := { h with map := own_move h.map rfl }
theorem below_drewN {B : Nat} {a w : World} (h : Below B a w) (n : Nat) : Below B a (w.drewN n) := ⟨h.os, h.tape, h.output, h.size, h.block⟩
theorem says_from {w0 w w' : World} {L : List (Th Int)} {r : Value} {e : Ending} (hb : Below B w0 w) (hf : FrC 55 60 m w0 w) (h : Says w B c m most t L r e w') : Says w0 B c m most t L r e w' :=
  ⟨h.1, h.2.1, hb.trans h.2.2.1, hf.trans h.2.2.2⟩
/-- what the last statement of Put makes of a cache that does not have the key -/
theorem add_step (h : Ca_ w B c m most t clock D E) {k : ByteArray} (hk : k.size ≤ maxLen) (hno : ∀ e ∈ E, e.k ≠ k) (hl : E.length ≤ 1000) (v : Int) :
    ∃ W2, (Instr.mapUpdate 53 (.map (some m)) (.string k) (.pointer (some ⟨w.heap.size, 0, none⟩))).run Try.prog ((w.setCell ⟨c, 1, none⟩ (.int .i64 ((clock : Int) + 1))).alloc (.cells #[enc v, .int .i64 0, .int .i64 ((clock : Int) + 1)] 60)).drew = .ok () W2 ∧
      Says w B c m most (t + 1) (E.map En.th ++ [⟨k, v, 0⟩]) (.int .i64 0) (.returned (.int .i64 0)) W2 ∧ (∀ j, j < w.heap.size → j ≠ m → j ≠ c → W2.heap[j]? = w.heap[j]?) ∧ W2.cell? ⟨c, 2, none⟩ = some (.map (some m)) := by
  have h' := h.tick hT
  obtain ⟨W, eW⟩ : ∃ W, W = w.setCell ⟨c, 1, none⟩ (.int .i64 ((clock : Int) + 1)) := ⟨_, rfl⟩
  have hsz : W.heap.size = w.heap.size := by rw [eW]; exact size_setCell _ _ _
  have hb1 : Below B w W := by rw [eW]; exact (Below.refl _ _).setCell h.bc _
  have hf1 : FrC 55 60 m w W := by rw [eW]; exact FrC.updC (Upd.setCell h.hdr 1 _) (by rw [size_setCell]; exact Nat.le_refl _) h.hdr
  rw [← eW] at h' ⊢
  have b2 : Below W.heap.size W (W.alloc (.cells #[enc v, .int .i64 0, .int .i64 ((clock : Int) + 1)] 60)).drew := ((Below.refl _ _).alloc (Nat.le_refl _) _).drew
  have g2 : ((W.alloc (.cells #[enc v, .int .i64 0, .int .i64 ((clock : Int) + 1)] 60)).drew).heap[W.heap.size]? = some (.cells #[enc v, .int .i64 0, .int .i64 ((clock : Int) + 1)] 60 (0, 0)) := heap_alloc_new W _
  obtain ⟨W1, eW1⟩ : ∃ W1, W1 = (W.alloc (.cells #[enc v, .int .i64 0, .int .i64 ((clock : Int) + 1)] 60)).drew := ⟨_, rfl⟩
  rw [← eW1] at b2 g2 ⊢
  have h1 := h'.below b2
  obtain ⟨W2, hrun, hown, hgr⟩ := h1.map.update (val := .pointer (some ⟨w.heap.size, 0, none⟩)) kstr Try.underlying53 (by unfold maxLen; omega) (kof hk) (Rp_mk w.heap.size)
  have ho : ∀ j, j < W1.heap.size → j ≠ m → W2.heap[j]? = W1.heap[j]? := fun j hj hne => hgr.block j hj (fun e => hne (by injection e))
  have hmb := h.bm
  have hml := h.map.lt
  have hlast : Below B w W2 := (hb1.trans (b2.mono (by omega))).grown hgr (by have := b2.size; omega) (fun k e => by injection e with e; omega)
  have hj : ∀ j, j < w.heap.size → j ≠ m → j ≠ c → W2.heap[j]? = w.heap[j]? := fun j hj h1 h2 => by
    have e1 : W1.heap[j]? = W.heap[j]? := b2.block j (by omega)
    have e2 : W.heap[j]? = w.heap[j]? := by rw [eW]; exact (Upd.setCell h.hdr 1 _).2 j hj h2
    exact (ho j (by have := b2.size; omega) h1).trans (e1.trans e2)
  have hc2 : W2.cell? ⟨c, 2, none⟩ = some (.map (some m)) := by
    have e1 : W2.heap[c]? = _ := (ho c (heap_lt h1.hdr) h1.ne_cm).trans h1.hdr
    exact (cell_at e1 2).trans rfl
  refine ⟨W2, hrun, ⟨rfl, ⟨clock + 1, _, _, h1.add (v := v) (g := w.heap.size) (s := clock + 1) hno hk (Nat.le_refl _) (fun x hx => Nat.lt_succ_of_le (h.since x hx)) (by omega) ?_ hown ho, by simp [En.th]⟩, hlast, (hf1.trans (FrC.below b2)).trans (FrC.map_ hgr.size ho)⟩, hj, hc2⟩
  rw [← hsz]
  exact (ho _ (heap_lt g2) (by omega)).trans g2
theorem put_room (h : Ca_ w B c m most t clock D E) (ht : t < 1000000000) {k : ByteArray} (hk : k.size ≤ maxLen) (hno : ∀ e ∈ E, e.k ≠ k) (hlt : E.length < most) (hm : most ≤ 1000) (v : Int) :
    Calls Try.prog 9 #[.pointer (some ⟨c, 0, none⟩), .string k, enc v] w (Says w B c m most (t + 1) (E.map En.th ++ [⟨k, v, 0⟩]) (.int .i64 0)) := by
  have b0 : Below w.heap.size w (w.alloc (.cells #[.pointer (some ⟨c, 0, none⟩)] 23)) := (Below.refl _ _).alloc (Nat.le_refl _) _
  obtain ⟨W0, eW0⟩ : ∃ W0, W0 = w.alloc (.cells #[.pointer (some ⟨c, 0, none⟩)] 23) := ⟨_, rfl⟩
  rw [← eW0] at b0
  have h0 := h.below b0
  have hl := h0.look_no Try.underlying53 zP hk hno
  have hlen : ∀ n, (Builtin.len_ #[53] 3 #[.map (some m)]).run Try.prog (W0.drewN n) = .ok (.int .i64 E.length) (W0.drewN n) := fun n => by
    have := (CaDrewN h0 n).map.len Try.underlying53 3
    rw [(CaDrewN h0 n).size] at this
    exact this
  have c0 : W0.cell? ⟨c, 0, none⟩ = some (.int .i64 most) := (cell_at h0.hdr 0).trans rfl
  have c1 : W0.cell? ⟨c, 2, none⟩ = some (.map (some m)) := (cell_at h0.hdr 2).trans rfl
  have x0 : W0.heap[w.heap.size]? = some (.cells #[.pointer (some ⟨c, 0, none⟩)] 23 (0, 0)) := by rw [eW0]; exact heap_alloc_new w _
  have c2 : W0.cell? ⟨w.heap.size, 0, none⟩ = some (.pointer (some ⟨c, 0, none⟩)) := (cell_at x0 0).trans rfl
  have hd : decide (most ≤ E.length) = false := decide_eq_false (by omega)
  have hbB : Below B w W0 := b0.mono (by have := heap_lt h.hdr; have := h.bc; omega)
  have hfB : FrC 55 60 m w W0 := FrC.below b0
  have EW := Lib.hid eW0
  have H0 := Lib.hid h0
  have X0 := Lib.hid x0
  have hck := h.clk
  have NO := Lib.hid hno
  have hsep : m < w.heap.size ∧ c < w.heap.size := ⟨h.map.lt, heap_lt h.hdr⟩
  clear h h0 eW0 b0 hno x0
  go_enter Try.func9, Try.ntmps9
  go_upto_region 1 with (fail)
  rw [← EW.out]
  go_wp2_with (fail)
  go_quiet (fail)
  go_wp2_with (fail)
  generalize hW : W0.drewN _ = W
  have HW := Lib.hid hW
  have hh : Ca_ W B c m most t clock D E := by rw [← hW]; exact CaDrewN H0.out _
  have xx : W.heap[w.heap.size]? = some (.cells #[.pointer (some ⟨c, 0, none⟩)] 23 (0, 0)) := by rw [← hW]; exact X0.out
  clear hW hl hlen c0 c1 c2
  have c0 : W.cell? ⟨w.heap.size, 0, none⟩ = some (.pointer (some ⟨c, 0, none⟩)) := (cell_at xx 0).trans rfl
  have c1 : W.cell? ⟨c, 2, none⟩ = some (.map (some m)) := (cell_at hh.hdr 2).trans rfl
  have n0 := World.new_ne W _ c0
  have n1 := World.new_ne W _ c1
  have T := Lib.hid (tick_any c clock _ _ W.drew hh.hdr (by omega))
  have k0 : (W.setCell ⟨c, 1, none⟩ (.int .i64 ((clock : Int) + 1))).cell? ⟨w.heap.size, 0, none⟩ = some (.pointer (some ⟨c, 0, none⟩)) := (World.cell?_setCell_other _ _ _ _ (fun e => by injection e with _ e _; cases e)).trans c0
  have k1 : (W.setCell ⟨c, 1, none⟩ (.int .i64 ((clock : Int) + 1))).cell? ⟨c, 2, none⟩ = some (.map (some m)) := (World.cell?_setCell_other _ _ _ _ (fun e => by injection e with _ e _; cases e)).trans c1
  have k2 := World.new_ne (W.setCell ⟨c, 1, none⟩ (.int .i64 ((clock : Int) + 1))) _ k0
  have k3 := World.new_ne (W.setCell ⟨c, 1, none⟩ (.int .i64 ((clock : Int) + 1))) _ k1
  obtain ⟨W2, hmu, fin, hj, m1⟩ := add_step hh hk NO.out (by omega) v
  have m0 : W2.cell? ⟨w.heap.size, 0, none⟩ = some (.pointer (some ⟨c, 0, none⟩)) := (cell_at ((hj _ (heap_lt xx) (by have := hsep.1; omega) (by have := hsep.2; omega)).trans xx) 0).trans rfl
  have FIN := Lib.hid fin
  clear hh xx fin hj
  go_region_held3 (fun w' => w'.cell? ⟨w.heap.size, 0, none⟩ = some (.pointer (some ⟨c, 0, none⟩)) ∧ w'.cell? ⟨c, 2, none⟩ = some (.map (some m))) (go_keep) ((go_at_call 30; refine (T.out).mono ?_; rintro e w' ⟨rfl, rfl⟩))
  all_goals go_wp2
  go_ret
  exact says_from (by rw [← HW.out]; exact below_drewN hbB _) (by rw [← HW.out]; exact hfB) FIN.out
theorem putfn_any (h : Ca_ w B c m most t clock D E) {bx : Nat} (hbx : w.heap[bx]? = some (.cells #[.pointer (some ⟨c, 0, none⟩)] 23 (0, 0))) {x : En Int} (hx : x ∈ E) :
    Calls Try.prog 32 #[.string x.k, .pointer (some ⟨bx, 0, none⟩)] w fun e w' => e = .returned (.bool ((x.p : Int) == 0)) ∧ ∃ q, w' = w.drewN q := by
  have l1 := h.look Try.underlying53 zP hx
  have c1 : w.cell? ⟨bx, 0, none⟩ = some (.pointer (some ⟨c, 0, none⟩)) := (cell_at hbx 0).trans rfl
  have c2 : w.cell? ⟨c, 2, none⟩ = some (.map (some m)) := (cell_at h.hdr 2).trans rfl
  have c3 : w.cell? ⟨x.b, 1, none⟩ = some (.int .i64 x.p) := (cell_at (h.things x hx) 1).trans rfl
  clear h hx hbx
  obtain ⟨b, eb⟩ : ∃ b, b = ((x.p : Int) == 0) := ⟨_, rfl⟩
  rw [← eb]
  have hb := eb.symm
  clear eb
  cases b
  all_goals
    go_enter Try.func32, Try.ntmps32
    go_wp2
    go_ret
    exact ⟨rfl, 0, rfl⟩
theorem fin_get {n : Nat} [Inhabited (Fin n)] (k : Nat) (hk : k < n) : (List.finRange n)[k]! = ⟨k, hk⟩ := by
  rw [getElem!_pos _ k (by simpa using hk)]
  simp
theorem idx_hit (hE : E = Ea ++ e :: Eb) [Inhabited (Fin E.length)] (hp : e.p = 0) (hn : ∀ x ∈ Ea, x.p ≠ 0) :
    Lib.idxBy (fun _ y => (fun i : Fin E.length => ((E[i].p : Int) == 0)) y) ((List.finRange E.length).take E.length) default = Ea.length := by
  have hl : Ea.length < E.length := by rw [hE]; simp
  refine Lib.idxBy_hit _ _ _ _ _ hl (by simp) ?_ (fun j hj => ?_)
  · rw [fin_get _ hl]
    have : E[Ea.length]'hl = e := by simp [hE]
    show ((E[Ea.length].p : Int) == 0) = true
    rw [this, hp]; rfl
  · have hj' : j < E.length := by omega
    rw [fin_get _ hj']
    have : E[j]'hj' = Ea[j] := by simp [hE, List.getElem_append_left hj]
    show ((E[j].p : Int) == 0) = false
    rw [this]
    have := hn _ (List.getElem_mem hj)
    exact beq_eq_false_iff_ne.2 (by omega)
theorem idx_miss [Inhabited (Fin E.length)] (hn : ∀ x ∈ E, x.p ≠ 0) :
    Lib.idxBy (fun _ y => (fun i : Fin E.length => ((E[i].p : Int) == 0)) y) ((List.finRange E.length).take E.length) default = -1 := by
  refine Lib.idxBy_miss _ _ _ _ (fun j hj => ?_)
  rw [fin_get _ hj]
  have := hn _ (List.getElem_mem hj)
  show ((E[j].p : Int) == 0) = false
  exact beq_eq_false_iff_ne.2 (by omega)
/-- the keys, then the place of the first thing without pins, in the world behind the keys -/
theorem index_any (h : Ca_ w B c m most t clock D E) {bx : Nat} (hbx : w.heap[bx]? = some (.cells #[.pointer (some ⟨c, 0, none⟩)] 23 (0, 0))) [Inhabited (Fin E.length)] {W : World} (hb : Below w.heap.size w W) {g cap : Nat}
    (hrow : W.ownsRow w.heap.size 9 1 (.slice (some ⟨g, 0, none⟩) E.length cap) E.length (E.map fun e => .string e.k)) (hn : E.length ≤ 1000) :
    Calls Try.prog 31 #[.slice (some ⟨g, 0, none⟩) E.length cap, .func (.func 32) #[] #[.pointer (some ⟨bx, 0, none⟩)]] W fun e w' =>
      e = .returned (.int .i64 (Lib.idxBy (fun _ y => (fun i : Fin E.length => ((E[i].p : Int) == 0)) y) ((List.finRange E.length).take E.length) default)) ∧ ∃ q, w' = W.drewN q := by
  refine AnyE.slices_IndexFunc Try.l31 (fun i : Fin E.length => Value.string E[i].k) (fun i => ((E[i].p : Int) == 0)) 32 #[.pointer (some ⟨bx, 0, none⟩)]
    (enters_of Try.func32 (by kernel_rfl) rfl) g 0 E.length cap (List.finRange E.length) W ?_ (by simp) (by omega) ?_
  · intro W' x hb'
    have hk : ∀ k, k < w.heap.size → W'.heap[k]? = w.heap[k]? := fun k hk => (hb'.block k (Nat.lt_of_lt_of_le hk hb.size)).trans (hb.block k hk)
    exact putfn_any (h.keep (hk _ (heap_lt h.hdr)) (hk _ h.map.lt) (fun e he => hk _ (heap_lt (h.things e he)))) ((hk _ (heap_lt hbx)).trans hbx) (List.getElem_mem x.2)
  · intro j hj
    have hj' : j < E.length := by simpa using hj
    rw [fin_get _ hj', Nat.zero_add]
    have := hrow.cells (g := g) rfl j (.string E[j].k) (by simp [hj'])
    by_cases h0 : j = 0
    · subst h0; simpa [Addr.add] using this
    · simpa [Addr.add, h0] using this
theorem put_full (h : Ca_ w B c m most t clock D E) (ht : t < 1000000000) {k : ByteArray} (hk : k.size ≤ maxLen) (hno : ∀ e ∈ E, e.k ≠ k) (hle : E.length = most) (hpos : 0 < E.length) (hm : most ≤ 1000) (hpin : ∀ e ∈ E, e.p ≠ 0) (v : Int) :
    Calls Try.prog 9 #[.pointer (some ⟨c, 0, none⟩), .string k, enc v] w (Says w B c m most (t + 1) (E.map En.th) (.int .i64 41)) := by
  have HL := Lib.hid hle
  have hle' : most ≤ E.length := by omega
  have hle2 : E.length ≤ most := by omega
  clear hle
  have b0 : Below w.heap.size w (w.alloc (.cells #[.pointer (some ⟨c, 0, none⟩)] 23)) := (Below.refl _ _).alloc (Nat.le_refl _) _
  obtain ⟨W0, eW0⟩ : ∃ W0, W0 = w.alloc (.cells #[.pointer (some ⟨c, 0, none⟩)] 23) := ⟨_, rfl⟩
  rw [← eW0] at b0
  have h0 := h.below b0
  have hl := h0.look_no Try.underlying53 zP hk hno
  have hlen : ∀ n, (Builtin.len_ #[53] 3 #[.map (some m)]).run Try.prog (W0.drewN n) = .ok (.int .i64 E.length) (W0.drewN n) := fun n => by
    have := (CaDrewN h0 n).map.len Try.underlying53 3
    rw [(CaDrewN h0 n).size] at this
    exact this
  have c0 : W0.cell? ⟨c, 0, none⟩ = some (.int .i64 most) := (cell_at h0.hdr 0).trans rfl
  have c1 : W0.cell? ⟨c, 2, none⟩ = some (.map (some m)) := (cell_at h0.hdr 2).trans rfl
  have x0 : W0.heap[w.heap.size]? = some (.cells #[.pointer (some ⟨c, 0, none⟩)] 23 (0, 0)) := by rw [eW0]; exact heap_alloc_new w _
  have c2 : W0.cell? ⟨w.heap.size, 0, none⟩ = some (.pointer (some ⟨c, 0, none⟩)) := (cell_at x0 0).trans rfl
  have hd : decide (most ≤ E.length) = true := decide_eq_true (by omega)
  have hbB : Below B w W0 := b0.mono (by have := heap_lt h.hdr; have := h.bc; omega)
  have hfB : FrC 55 60 m w W0 := FrC.below b0
  have EW := Lib.hid eW0
  have H0 := Lib.hid h0
  have X0 := Lib.hid x0
  have NO := Lib.hid hno
  have hsep : m < w.heap.size ∧ c < w.heap.size := ⟨h.map.lt, heap_lt h.hdr⟩
  have hck := h.clk
  clear h h0 eW0 b0 hno x0
  go_enter Try.func9, Try.ntmps9
  go_upto_region 1 with (fail)
  rw [← EW.out]
  go_wp2_with (fail)
  go_quiet (fail)
  go_wp2_with (fail)
  generalize hW : W0.drewN _ = W
  have HW := Lib.hid hW
  have hh : Ca_ W B c m most t clock D E := by rw [← hW]; exact CaDrewN H0.out _
  have xx : W.heap[w.heap.size]? = some (.cells #[.pointer (some ⟨c, 0, none⟩)] 23 (0, 0)) := by rw [← hW]; exact X0.out
  have K := Lib.hid (keys_any ⟨clock, D, E, hh, rfl⟩ (by simp; omega))
  have HH := Lib.hid hh
  have XX := Lib.hid xx
  clear hW hl hlen c0 c1 c2 xx hh
  refine (K.out).mono ?_
  rintro e0 Wk ⟨v0, rfl, hrow, hbk⟩
  rw [List.length_map, List.map_map] at hrow
  obtain ⟨g, cap, rfl, hgb, hgl⟩ := hrow.form hpos
  haveI : Inhabited (Fin E.length) := ⟨⟨0, hpos⟩⟩
  have IX0 := index_any HH.out XX.out hbk hrow (by omega)
  rw [idx_miss hpin] at IX0
  have IX := Lib.hid IX0
  have HR := Lib.hid hrow
  clear IX0 hrow hbB hfB hck
  go_wp2_with (go_at_call 31; ((with_reducible refine (IX.out).mono ?_); rintro e1 w1 ⟨rfl, q, rfl⟩))
  go_ret
  have hbB : Below B w W0 := by rw [EW.out]; exact (Below.refl _ _).alloc (by have := H0.out.bc; omega) _
  have hfB : FrC 55 60 m w W0 := by rw [EW.out]; exact FrC.below ((Below.refl _ _).alloc (Nat.le_refl _) _)
  have hf := FrC.below (TC := 55) (TT := 60) (m := m) hbk
  have hBW : B ≤ W.heap.size := by have := heap_lt HH.out.hdr; have := HH.out.bc; omega
  refine ⟨rfl, ⟨clock, D, E, (CaDrewN (HH.out.below hbk) q).later (Nat.le_succ _), rfl⟩, below_drewN ((by rw [← HW.out]; exact below_drewN hbB _ : Below B w W).trans (hbk.mono hBW)) q, ?_⟩
  exact (by rw [← HW.out]; exact hfB : FrC 55 60 m w W).trans hf
theorem del_step (h : Ca_ w B c m most t clock D (Ea ++ e :: Eb)) : ∃ W3, (Builtin.delete_ #[53, 9] 0 #[.map (some m), .string e.k]).run Try.prog w.drew = .ok (.tuple #[]) W3 ∧
    Ca_ W3 B c m most t clock (D.del (.string (tl e.k))) (Ea ++ Eb) ∧ Below B w W3 ∧ FrC 55 60 m w W3 ∧ (∀ j, j < w.heap.size → j ≠ m → W3.heap[j]? = w.heap[j]?) := by
  have h' : Ca_ w.drew B c m most t clock D (Ea ++ e :: Eb) := CaDrewN h 1
  obtain ⟨W3, hrun, hown, htu⟩ := h'.map.drop kstr Try.underlying53 (kof (h.lens e (by simp))) 0
  have hg := htu.grown
  have ho : ∀ j, j < w.drew.heap.size → j ≠ m → W3.heap[j]? = w.drew.heap[j]? := fun j hj hne => hg.block j hj (fun e => hne (by injection e))
  refine ⟨W3, hrun, h'.del hown ho, ((Below.refl B w).drew).grown hg (by have := h.map.lt; have := h.bm; simp; omega) (fun k e => by injection e with e; subst e; exact h.bm), FrC.map_ hg.size ho, ho⟩
set_option maxHeartbeats 1000000 in
theorem put_evict (h : Ca_ w B c m most t clock D (Ea ++ e :: Eb)) (ht : t < 1000000000) {k : ByteArray} (hk : k.size ≤ maxLen) (hno : ∀ x ∈ Ea ++ e :: Eb, x.k ≠ k) (hle : (Ea ++ e :: Eb).length = most) (hm : most ≤ 1000) (hp0 : e.p = 0) (hpin : ∀ x ∈ Ea, x.p ≠ 0) (v : Int) :
    Calls Try.prog 9 #[.pointer (some ⟨c, 0, none⟩), .string k, enc v] w (Says w B c m most (t + 1) (Ea.map En.th ++ Eb.map En.th ++ [⟨k, v, 0⟩]) (.int .i64 0)) := by
  obtain ⟨E, eE⟩ : ∃ E, E = Ea ++ e :: Eb := ⟨_, rfl⟩
  have hEl : Ea.length < E.length := by rw [eE]; simp
  have hpos : 0 < E.length := by omega
  rw [← eE] at h hno hle
  have EE := Lib.hid eE
  have EP := Lib.hid hp0
  have PN := Lib.hid hpin
  clear eE hp0 hpin
  have HL := Lib.hid hle
  have hle' : most ≤ E.length := by omega
  have hle2 : E.length ≤ most := by omega
  clear hle
  have b0 : Below w.heap.size w (w.alloc (.cells #[.pointer (some ⟨c, 0, none⟩)] 23)) := (Below.refl _ _).alloc (Nat.le_refl _) _
  obtain ⟨W0, eW0⟩ : ∃ W0, W0 = w.alloc (.cells #[.pointer (some ⟨c, 0, none⟩)] 23) := ⟨_, rfl⟩
  rw [← eW0] at b0
  have h0 := h.below b0
  have hl := h0.look_no Try.underlying53 zP hk hno
  have hlen : ∀ n, (Builtin.len_ #[53] 3 #[.map (some m)]).run Try.prog (W0.drewN n) = .ok (.int .i64 E.length) (W0.drewN n) := fun n => by
    have := (CaDrewN h0 n).map.len Try.underlying53 3
    rw [(CaDrewN h0 n).size] at this
    exact this
  have c0 : W0.cell? ⟨c, 0, none⟩ = some (.int .i64 most) := (cell_at h0.hdr 0).trans rfl
  have c1 : W0.cell? ⟨c, 2, none⟩ = some (.map (some m)) := (cell_at h0.hdr 2).trans rfl
  have x0 : W0.heap[w.heap.size]? = some (.cells #[.pointer (some ⟨c, 0, none⟩)] 23 (0, 0)) := by rw [eW0]; exact heap_alloc_new w _
  have c2 : W0.cell? ⟨w.heap.size, 0, none⟩ = some (.pointer (some ⟨c, 0, none⟩)) := (cell_at x0 0).trans rfl
  have hd : decide (most ≤ E.length) = true := decide_eq_true (by omega)
  have hbB : Below B w W0 := b0.mono (by have := heap_lt h.hdr; have := h.bc; omega)
  have hfB : FrC 55 60 m w W0 := FrC.below b0
  have EW := Lib.hid eW0
  have H0 := Lib.hid h0
  have X0 := Lib.hid x0
  have NO := Lib.hid hno
  have hsep : m < w.heap.size ∧ c < w.heap.size := ⟨h.map.lt, heap_lt h.hdr⟩
  have hck := h.clk
  clear h h0 eW0 b0 hno x0
  go_enter Try.func9, Try.ntmps9
  go_upto_region 1 with (fail)
  rw [← EW.out]
  go_wp2_with (fail)
  go_quiet (fail)
  go_wp2_with (fail)
  generalize hW : W0.drewN _ = W
  have HW := Lib.hid hW
  have hh : Ca_ W B c m most t clock D E := by rw [← hW]; exact CaDrewN H0.out _
  have xx : W.heap[w.heap.size]? = some (.cells #[.pointer (some ⟨c, 0, none⟩)] 23 (0, 0)) := by rw [← hW]; exact X0.out
  have K := Lib.hid (keys_any ⟨clock, D, E, hh, rfl⟩ (by simp; omega))
  have HH := Lib.hid hh
  have XX := Lib.hid xx
  clear hW hl hlen c0 c1 c2 xx hh
  refine (K.out).mono ?_
  rintro e0 Wk ⟨v0, rfl, hrow, hbk⟩
  rw [List.length_map, List.map_map] at hrow
  obtain ⟨g, cap, rfl, hgb, hgl⟩ := hrow.form hpos
  haveI : Inhabited (Fin E.length) := ⟨⟨0, hpos⟩⟩
  have IX0 := index_any HH.out XX.out hbk hrow (by omega)
  rw [idx_hit EE.out EP.out PN.out] at IX0
  have IX := Lib.hid IX0
  have gcell0 : Wk.cell? ⟨g, Ea.length, none⟩ = some (.string e.k) := by
    have := hrow.cells (g := g) rfl Ea.length (.string e.k) (by rw [List.getElem?_map, show E[Ea.length]? = some e from by rw [EE.out]; simp]; rfl)
    by_cases h0 : Ea.length = 0
    · rw [h0] at this ⊢; simpa [Addr.add] using this
    · simpa [Addr.add, h0] using this
  have HR := Lib.hid hrow
  clear IX0 hrow hbB hfB
  have ni : ¬ (Ea.length : Int) < 0 := by omega
  have ni2 : (0 : Int) ≤ (Ea.length : Int) := by omega
  have ni3 : (Ea.length : Int) < (E.length : Int) := by omega
  go_wp2_with (go_at_call 31; ((with_reducible refine (IX.out).mono ?_); rintro e1 w1 ⟨rfl, q, rfl⟩))
  generalize hX : Wk.drewN q = X
  have eX := Lib.hid hX
  have hhX : Ca_ X B c m most t clock D (Ea ++ e :: Eb) := by rw [← hX, ← EE.out]; exact CaDrewN (HH.out.below hbk) q
  have xxX : X.heap[w.heap.size]? = some (.cells #[.pointer (some ⟨c, 0, none⟩)] 23 (0, 0)) := by rw [← hX]; exact (hbk.block _ (heap_lt XX.out)).trans XX.out
  have gcell : X.cell? ⟨g, Ea.length, none⟩ = some (.string e.k) := by rw [← hX]; exact gcell0
  have hgX : g < X.heap.size := by rw [← hX]; exact hgl
  clear hX gcell0
  have c0 : X.cell? ⟨w.heap.size, 0, none⟩ = some (.pointer (some ⟨c, 0, none⟩)) := (cell_at xxX 0).trans rfl
  have c1 : X.cell? ⟨c, 2, none⟩ = some (.map (some m)) := (cell_at hhX.hdr 2).trans rfl
  obtain ⟨W3, hdel, h3, b3, f3, o3⟩ := del_step hhX
  have gm : g ≠ m := by have := HH.out.map.lt; omega
  have m0 : W3.cell? ⟨w.heap.size, 0, none⟩ = some (.pointer (some ⟨c, 0, none⟩)) := (cell_at ((o3 _ (heap_lt xxX) (by have := hsep.1; omega)).trans xxX) 0).trans rfl
  have m1 : W3.cell? ⟨c, 2, none⟩ = some (.map (some m)) := (cell_at h3.hdr 2).trans rfl
  have m2 : W3.cell? ⟨g, Ea.length, none⟩ = some (.string e.k) := (World.cell?_of_block (o3 g hgX gm)).trans gcell
  have x3 : W3.heap[w.heap.size]? = some (.cells #[.pointer (some ⟨c, 0, none⟩)] 23 (0, 0)) := (o3 _ (heap_lt xxX) (by have := hsep.1; omega)).trans xxX
  have H3 := Lib.hid h3
  have B3 := Lib.hid b3
  have F3 := Lib.hid f3
  have X3 := Lib.hid x3
  clear hhX xxX h3 b3 f3 o3 x3 gm
  go_region_held3 (fun w' => w'.cell? ⟨w.heap.size, 0, none⟩ = some (.pointer (some ⟨c, 0, none⟩)) ∧ w'.cell? ⟨c, 2, none⟩ = some (.map (some m)) ∧ w'.cell? ⟨g, Ea.length, none⟩ = some (.string e.k)) (go_keep) (fail)
  have h3 := H3.out
  have x3 := X3.out
  clear hdel c0 c1 gcell m2
  have n0 := World.new_ne W3 _ m0
  have n1 := World.new_ne W3 _ m1
  have T := Lib.hid (tick_any c clock _ _ W3.drew h3.hdr (by omega))
  have k0 : (W3.setCell ⟨c, 1, none⟩ (.int .i64 ((clock : Int) + 1))).cell? ⟨w.heap.size, 0, none⟩ = some (.pointer (some ⟨c, 0, none⟩)) := (World.cell?_setCell_other _ _ _ _ (fun e => by injection e with _ e _; cases e)).trans m0
  have k1 : (W3.setCell ⟨c, 1, none⟩ (.int .i64 ((clock : Int) + 1))).cell? ⟨c, 2, none⟩ = some (.map (some m)) := (World.cell?_setCell_other _ _ _ _ (fun e => by injection e with _ e _; cases e)).trans m1
  have k2 := World.new_ne (W3.setCell ⟨c, 1, none⟩ (.int .i64 ((clock : Int) + 1))) _ k0
  have k3 := World.new_ne (W3.setCell ⟨c, 1, none⟩ (.int .i64 ((clock : Int) + 1))) _ k1
  obtain ⟨W2, hmu, fin, hj, p1⟩ := add_step h3 hk (fun x hx => NO.out x (by rw [EE.out]; simp only [List.mem_append, List.mem_cons] at hx ⊢; rcases hx with hx | hx <;> simp [hx])) (by have := congrArg List.length EE.out; simp at this ⊢; omega) v
  have p0 : W2.cell? ⟨w.heap.size, 0, none⟩ = some (.pointer (some ⟨c, 0, none⟩)) := (cell_at ((hj _ (heap_lt x3) (by have := hsep.1; omega) (by have := hsep.2; omega)).trans x3) 0).trans rfl
  have FIN := Lib.hid fin
  clear h3 x3 fin hj
  go_wp2_with (fail)
  go_region_held3 (fun w' => w'.cell? ⟨w.heap.size, 0, none⟩ = some (.pointer (some ⟨c, 0, none⟩)) ∧ w'.cell? ⟨c, 2, none⟩ = some (.map (some m))) (go_keep) ((go_at_call 30; refine (T.out).mono ?_; rintro e w' ⟨rfl, rfl⟩))
  all_goals go_wp2
  go_ret
  have hbB : Below B w W0 := by rw [EW.out]; exact (Below.refl _ _).alloc (by have := H0.out.bc; omega) _
  have hfB : FrC 55 60 m w W0 := by rw [EW.out]; exact FrC.below ((Below.refl _ _).alloc (Nat.le_refl _) _)
  have hBW : B ≤ W.heap.size := by have := heap_lt HH.out.hdr; have := HH.out.bc; omega
  have hbW : Below B w W := by rw [← HW.out]; exact below_drewN hbB _
  have hfW : FrC 55 60 m w W := by rw [← HW.out]; exact hfB
  have hbX : Below B w X := by rw [← eX.out]; exact below_drewN (hbW.trans (hbk.mono hBW)) q
  have hfX : FrC 55 60 m w X := by rw [← eX.out]; exact hfW.trans (FrC.below (below_drewN hbk q))
  have fin := says_from (hbX.trans B3.out) (hfX.trans F3.out) FIN.out
  rw [List.map_append] at fin
  exact fin
end
variable {w : World} {B c m most t : Nat} {L : List (Th Int)}
theorem put_any (h : Is w B c m most t L) {k : ByteArray} (hk : k.size ≤ maxLen) (ht : t < 1000000000) (hm1 : 1 ≤ most) (hm : most ≤ 1000) (hL : L.length ≤ most) (v : Int) :
    Calls Try.prog 9 #[.pointer (some ⟨c, 0, none⟩), .string k, enc v] w (Says w B c m most (t + 1) (put most L k v).1 (.int .i64 (put most L k v).2)) := by
  obtain ⟨clock, D, E, h, rfl⟩ := h
  rw [List.length_map] at hL
  rcases at_cases E k with ⟨Ea, e, Eb, rfl, rfl, hat⟩ | ⟨hno, hat⟩
  · have hp : put most ((Ea ++ e :: Eb).map En.th) e.k v = (Ea.map En.th ++ Eb.map En.th ++ [⟨e.k, v, e.p⟩], 0) := by unfold put; rw [hat]; rfl
    rw [hp]
    exact put_hit h ht v
  · by_cases hlt : E.length < most
    · have hp : put most (E.map En.th) k v = (E.map En.th ++ [⟨k, v, 0⟩], 0) := by unfold put; rw [hat]; simp only [List.length_map]; rw [if_pos hlt]
      rw [hp]
      exact put_room h ht hk hno hlt hm v
    · rcases free_cases E with ⟨Ea, e, Eb, rfl, hp0, hpin, hfr⟩ | ⟨hpin, hfr⟩
      · have hp : put most ((Ea ++ e :: Eb).map En.th) k v = (Ea.map En.th ++ Eb.map En.th ++ [⟨k, v, 0⟩], 0) := by unfold put; rw [hat]; simp only [List.length_map]; rw [if_neg hlt, hfr]
        rw [hp]
        exact put_evict h ht hk hno (by omega) hm hp0 hpin v
      · have hp : put most (E.map En.th) k v = (E.map En.th, 41) := by unfold put; rw [hat]; simp only [List.length_map]; rw [if_neg hlt, hfr]
        rw [hp]
        exact put_full h ht hk hno (by omega) (by omega) hm hpin v
end Go.Proofs.Ytcifjhhofefpjaa.Ca.I
