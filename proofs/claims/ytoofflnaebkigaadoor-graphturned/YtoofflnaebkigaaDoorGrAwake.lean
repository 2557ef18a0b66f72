/- The contracts of the two Order, and of the chapter's examples: trestlelaw07.awake. -/
import Derived.Test.YtoofflnaebkigaaDoorGrRCheck
namespace Go.Proofs.YtoofflnaebkigaaDoor.Gr
open Go.RowKit
open Lg (Strs tl)
set_option linter.unusedVariables false
set_option maxRecDepth 100000
/-- what Order answers -/
def ordF (l : List Tg) : List ByteArray := if checkF l = 0 then order l else []
def OrderSays (l : List Tg) (w : World) (e : Ending) (w' : World) : Prop :=
  (∃ A' c', e = .returned (.tuple #[.slice A' (ordF l).length c', .int .i64 (checkF l)]) ∧ Strs w' A' (ordF l)) ∧ Below w.heap.size w w'
theorem ordF_ok {l : List Tg} (h : checkF l = 0) : ordF l = order l := if_pos h
theorem ordF_no {l : List Tg} (h : checkF l ≠ 0) : ordF l = [] := if_neg h
theorem porder_any (A : Option Addr) (l : List Tg) (c : Nat) (w : World) (hE : Lg.Env w) (hr : Tgs w A l) (hl : l.length ≤ 1000) (hlc : l.length ≤ c) (hf : ∀ t ∈ l, Fits t) :
    Calls Tryd.prog 13 #[.slice A l.length c] w (OrderSays l w) := by
  have CK := Lib.hid (pcheck_any A l c w hE hr hl hlc hf)
  have SO : Hid (∀ V, Below w.heap.size w V → Calls Tryd.prog 23 #[.slice A l.length c] V (ListSays (order l) V)) := Lib.hid fun V hV => sorted_any A l c V (hr.below hV) hl hf
  have OK := Lib.hid (ordF_ok (l := l))
  have NO := Lib.hid (ordF_no (l := l))
  have EN : Hid (∀ e w', ((∃ A' c', e = .returned (.tuple #[.slice A' (ordF l).length c', .int .i64 (checkF l)]) ∧ Strs w' A' (ordF l)) ∧ Below w.heap.size w w') → OrderSays l w e w') := Lib.hid fun e w' h => h
  clear hE hr hf
  generalize OrderSays l w = Q at *
  generalize checkF l = E at *
  by_cases he : E = 0
  · subst he
    have F : Hid (ordF l = order l) := Lib.hid (OK.out rfl)
    clear OK NO
    go_enter Tryd.func13, Tryd.ntmps13
    go_wp2_with (first
      | (go_at_call 10; (with_reducible refine (CK.out).mono ?_); rintro e w1 ⟨rfl, hb1⟩; have S1 := Lib.hid (SO.out _ hb1))
      | (go_at_call 23; (with_reducible refine (S1.out).mono ?_); rintro e w2 ⟨⟨A2, c2, rfl, _, hs⟩, hb2⟩))
    refine EN.out _ _ ⟨⟨A2, c2, ?_, ?_⟩, hb1.trans (hb2.mono hb1.size)⟩
    · rw [F.out]; rfl
    · rw [F.out]; exact hs
  · have F := Lib.hid (NO.out he)
    have g : (E != 0) = true := by simpa using he
    clear OK NO he
    go_enter Tryd.func13, Tryd.ntmps13
    go_wp2_with (go_at_call 10; (with_reducible refine (CK.out).mono ?_); rintro e w1 ⟨rfl, hb1⟩)
    refine EN.out _ _ ⟨⟨none, 0, ?_, ?_⟩, hb1⟩
    · rw [F.out]; rfl
    · rw [F.out]; exact Reads.none_
theorem rorder_any (A : Option Addr) (l : List Tg) (c : Nat) (w : World) (hr : Tgs w A l) (hcap : TgCap w A l) (hl : l.length ≤ 1000) (hlc : l.length ≤ c) (hf : ∀ t ∈ l, Fits t) :
    Calls Tryd.prog 14 #[.slice A l.length c] w (OrderSays l w) := by
  have CK := Lib.hid (rcheck_any A l c w hr hcap hl hlc hf)
  have SO : Hid (∀ V, Below w.heap.size w V → Calls Tryd.prog 28 #[.slice A l.length c] V (ListSays (order l) V)) := Lib.hid fun V hV => order_any A l c V (hr.below hV) hl hf
  have OK := Lib.hid (ordF_ok (l := l))
  have NO := Lib.hid (ordF_no (l := l))
  have EN : Hid (∀ e w', ((∃ A' c', e = .returned (.tuple #[.slice A' (ordF l).length c', .int .i64 (checkF l)]) ∧ Strs w' A' (ordF l)) ∧ Below w.heap.size w w') → OrderSays l w e w') := Lib.hid fun e w' h => h
  clear hcap hr hf
  generalize OrderSays l w = Q at *
  generalize checkF l = E at *
  by_cases he : E = 0
  · subst he
    have F : Hid (ordF l = order l) := Lib.hid (OK.out rfl)
    clear OK NO
    go_enter Tryd.func14, Tryd.ntmps14
    go_wp2_with (first
      | (go_at_call 11; (with_reducible refine (CK.out).mono ?_); rintro e w1 ⟨rfl, hb1⟩; have S1 := Lib.hid (SO.out _ hb1))
      | (go_at_call 28; (with_reducible refine (S1.out).mono ?_); rintro e w2 ⟨⟨A2, c2, rfl, _, hs⟩, hb2⟩))
    refine EN.out _ _ ⟨⟨A2, c2, ?_, ?_⟩, hb1.trans (hb2.mono hb1.size)⟩
    · rw [F.out]; rfl
    · rw [F.out]; exact hs
  · have F := Lib.hid (NO.out he)
    have g : (E != 0) = true := by simpa using he
    clear OK NO he
    go_enter Tryd.func14, Tryd.ntmps14
    go_wp2_with (go_at_call 11; (with_reducible refine (CK.out).mono ?_); rintro e w1 ⟨rfl, hb1⟩)
    refine EN.out _ _ ⟨⟨none, 0, ?_, ?_⟩, hb1⟩
    · rw [F.out]; rfl
    · rw [F.out]; exact Reads.none_
abbrev aT : ByteArray := ⟨#[97]⟩
abbrev bT : ByteArray := ⟨#[98]⟩
abbrev cT : ByteArray := ⟨#[99]⟩
abbrev zT : ByteArray := ⟨#[122]⟩
abbrev eT : ByteArray := ⟨#[]⟩
def g1 : List Tg := [⟨bT, eT, [aT], []⟩, ⟨aT, eT, [], []⟩, ⟨cT, eT, [bT], []⟩]
def g2 : List Tg := [⟨aT, eT, [bT], []⟩, ⟨bT, eT, [aT], []⟩]
def g3 : List Tg := [⟨aT, eT, [zT], []⟩]
def g4 : List Tg := [⟨aT, eT, [], []⟩, ⟨aT, eT, [], []⟩]
theorem k1 : checkF g1 = 0 := by kernel_rfl
theorem o1 : order g1 = [aT, bT, cT] := by kernel_rfl
theorem k2 : checkF g2 = 31 := by kernel_rfl
theorem k3 : checkF g3 = 30 := by kernel_rfl
theorem k4 : checkF g4 = 16 := by kernel_rfl
theorem on_any (s : ByteArray) (A : Option Addr) (n c : Nat) (w : World) :
    Calls Tryd.prog 29 #[.string s, .slice A n c] w fun e w' => e = .returned (.agg #[.string s, .string eT, .slice A n c, .slice none 0 0]) ∧ Below w.heap.size w w' := by
  go_enter Tryd.func29, Tryd.ntmps29
  go_wp2_with (fail)
  exact bodyPost_ret (v := .agg #[.string s, .string eT, .slice A n c, .slice none 0 0]) (by simp [results, Tryd.results29, go_sem]) rfl ⟨rfl, (Below.refl _ _).alloc (Nat.le_refl _) _⟩

theorem tgAt_of {W : World} {g i : Nat} {cs : Array Value} {T : TypeId} {t : Tg} {Ad As : Option Addr} {cd cs' : Nat} (h : W.heap[g]? = some (.cells cs T (0, 0))) (h0 : cs[i]? = some (.string t.n)) (h1 : cs[i + 1]? = some (.string t.c))
    (h2 : cs[i + 2]? = some (.slice Ad t.ds.length cd)) (h3 : cs[i + 3]? = some (.slice As t.ss.length cs')) (hd : Strs W Ad t.ds) (hs : Strs W As t.ss) : TgAt W ((⟨g, 0, none⟩ : Addr).add i) t := by
  refine ⟨Ad, cd, As, cs', ?_, ?_, ?_, ?_, hd, hs⟩
  · rw [Lg.add_eq, Lg.cell_at h]; exact h0
  · rw [add_of_add, Lg.add_eq, Lg.cell_at h]; exact h1
  · rw [add_of_add, Lg.add_eq, Lg.cell_at h]; exact h2
  · rw [add_of_add, Lg.add_eq, Lg.cell_at h]; exact h3
theorem strs_of1 {W : World} {g : Nat} {s : ByteArray} {T : TypeId} (h : W.heap[g]? = some (.cells #[.string s] T (0, 0))) : Strs W (some ⟨g, 0, none⟩) [s] := ⟨rfl, fun _ => ⟨_, rfl, Lg.lt_heap h, fun j u hu => by
  rw [Lg.add_eq, Lg.cell_at h]
  simpa using hu⟩⟩
theorem fits_small {t : Tg} (h1 : t.n.size ≤ 5) (h2 : t.c.size ≤ 5) (h3 : t.ds.length ≤ 5) (h4 : t.ss.length ≤ 5) (h5 : ∀ x ∈ t.ds, x.size ≤ 5) (h6 : ∀ x ∈ t.ss, x.size ≤ 5) : Fits t :=
  ⟨by omega, by omega, by omega, by omega, fun x hx => by have := h5 x hx; omega, fun x hx => by have := h6 x hx; omega⟩
theorem fits_on (n : ByteArray) (ds : List ByteArray) (h1 : n.size ≤ 5) (h3 : ds.length ≤ 5) (h5 : ∀ x ∈ ds, x.size ≤ 5) : Fits ⟨n, eT, ds, []⟩ := fits_small h1 (by show (eT : ByteArray).size ≤ 5; decide) h3 (by simp) h5 (by simp)
theorem sm {s : ByteArray} (h : s.size ≤ 5) : ∀ x ∈ [s], x.size ≤ 5 := fun x hx => by
  obtain rfl := List.mem_singleton.1 hx
  exact h
theorem f1 : ∀ t ∈ g1, Fits t := by
  intro t ht
  simp only [g1, List.mem_cons, List.not_mem_nil, or_false] at ht
  rcases ht with rfl | rfl | rfl
  · first | exact fits_on _ _ (by decide) (by decide) (sm (by decide)) | exact fits_on _ _ (by decide) (by decide) (by simp)
  · first | exact fits_on _ _ (by decide) (by decide) (sm (by decide)) | exact fits_on _ _ (by decide) (by decide) (by simp)
  · first | exact fits_on _ _ (by decide) (by decide) (sm (by decide)) | exact fits_on _ _ (by decide) (by decide) (by simp)
theorem f2 : ∀ t ∈ g2, Fits t := by
  intro t ht
  simp only [g2, List.mem_cons, List.not_mem_nil, or_false] at ht
  rcases ht with rfl | rfl
  · first | exact fits_on _ _ (by decide) (by decide) (sm (by decide)) | exact fits_on _ _ (by decide) (by decide) (by simp)
  · first | exact fits_on _ _ (by decide) (by decide) (sm (by decide)) | exact fits_on _ _ (by decide) (by decide) (by simp)
theorem f3 : ∀ t ∈ g3, Fits t := by
  intro t ht
  simp only [g3, List.mem_cons, List.not_mem_nil, or_false] at ht
  rcases ht with rfl
  first | exact fits_on _ _ (by decide) (by decide) (sm (by decide)) | exact fits_on _ _ (by decide) (by decide) (by simp)
theorem f4 : ∀ t ∈ g4, Fits t := by
  intro t ht
  simp only [g4, List.mem_cons, List.not_mem_nil, or_false] at ht
  rcases ht with rfl | rfl
  · first | exact fits_on _ _ (by decide) (by decide) (sm (by decide)) | exact fits_on _ _ (by decide) (by decide) (by simp)
  · first | exact fits_on _ _ (by decide) (by decide) (sm (by decide)) | exact fits_on _ _ (by decide) (by decide) (by simp)
theorem none2 (W : World) : Strs W none [] := Reads.none_
theorem tgs1 {W : World} {b1 b2 : Nat} (h1 : W.heap[b1]? = some (.cells #[.string aT] 9 (0, 0))) (h2 : W.heap[b2]? = some (.cells #[.string bT] 9 (0, 0))) :
    Tgs (W.alloc (.cells #[.string bT, .string eT, .slice (some ⟨b1, 0, none⟩) 1 1, .slice none 0 0, .string aT, .string eT, .slice none 0 0, .slice none 0 0, .string cT, .string eT, .slice (some ⟨b2, 0, none⟩) 1 1, .slice none 0 0] 35)) (some ⟨W.heap.size, 0, none⟩) g1 := fun _ => by
  have hn := heap_alloc_new W (.cells #[.string bT, .string eT, .slice (some ⟨b1, 0, none⟩) 1 1, .slice none 0 0, .string aT, .string eT, .slice none 0 0, .slice none 0 0, .string cT, .string eT, .slice (some ⟨b2, 0, none⟩) 1 1, .slice none 0 0] 35)
  have s1 := strs_of1 ((Below.heap_alloc W (.cells #[.string bT, .string eT, .slice (some ⟨b1, 0, none⟩) 1 1, .slice none 0 0, .string aT, .string eT, .slice none 0 0, .slice none 0 0, .string cT, .string eT, .slice (some ⟨b2, 0, none⟩) 1 1, .slice none 0 0] 35) _ (Lg.lt_heap h1)).trans h1)
  have s2 := strs_of1 ((Below.heap_alloc W (.cells #[.string bT, .string eT, .slice (some ⟨b1, 0, none⟩) 1 1, .slice none 0 0, .string aT, .string eT, .slice none 0 0, .slice none 0 0, .string cT, .string eT, .slice (some ⟨b2, 0, none⟩) 1 1, .slice none 0 0] 35) _ (Lg.lt_heap h2)).trans h2)
  refine ⟨_, rfl, by simp, fun k hk => ?_⟩
  have h3 : k < 3 := hk
  rcases (show k = 0 ∨ k = 1 ∨ k = 2 by omega) with rfl | rfl | rfl
  · exact tgAt_of (Ad := some ⟨b1, 0, none⟩) (As := none) (cd := 1) (cs' := 0) hn rfl rfl rfl rfl s1 (none2 _)
  · exact tgAt_of (Ad := none) (As := none) (cd := 0) (cs' := 0) hn rfl rfl rfl rfl (none2 _) (none2 _)
  · exact tgAt_of (Ad := some ⟨b2, 0, none⟩) (As := none) (cd := 1) (cs' := 0) hn rfl rfl rfl rfl s2 (none2 _)
theorem tgs2 {W : World} {b1 b2 : Nat} (h1 : W.heap[b1]? = some (.cells #[.string bT] 9 (0, 0))) (h2 : W.heap[b2]? = some (.cells #[.string aT] 9 (0, 0))) :
    Tgs (W.alloc (.cells #[.string aT, .string eT, .slice (some ⟨b1, 0, none⟩) 1 1, .slice none 0 0, .string bT, .string eT, .slice (some ⟨b2, 0, none⟩) 1 1, .slice none 0 0] 35)) (some ⟨W.heap.size, 0, none⟩) g2 := fun _ => by
  have hn := heap_alloc_new W (.cells #[.string aT, .string eT, .slice (some ⟨b1, 0, none⟩) 1 1, .slice none 0 0, .string bT, .string eT, .slice (some ⟨b2, 0, none⟩) 1 1, .slice none 0 0] 35)
  have s1 := strs_of1 ((Below.heap_alloc W (.cells #[.string aT, .string eT, .slice (some ⟨b1, 0, none⟩) 1 1, .slice none 0 0, .string bT, .string eT, .slice (some ⟨b2, 0, none⟩) 1 1, .slice none 0 0] 35) _ (Lg.lt_heap h1)).trans h1)
  have s2 := strs_of1 ((Below.heap_alloc W (.cells #[.string aT, .string eT, .slice (some ⟨b1, 0, none⟩) 1 1, .slice none 0 0, .string bT, .string eT, .slice (some ⟨b2, 0, none⟩) 1 1, .slice none 0 0] 35) _ (Lg.lt_heap h2)).trans h2)
  refine ⟨_, rfl, by simp, fun k hk => ?_⟩
  have h3 : k < 2 := hk
  rcases (show k = 0 ∨ k = 1 by omega) with rfl | rfl
  · exact tgAt_of (Ad := some ⟨b1, 0, none⟩) (As := none) (cd := 1) (cs' := 0) hn rfl rfl rfl rfl s1 (none2 _)
  · exact tgAt_of (Ad := some ⟨b2, 0, none⟩) (As := none) (cd := 1) (cs' := 0) hn rfl rfl rfl rfl s2 (none2 _)
theorem tgs3 {W : World} {b1 : Nat} (h1 : W.heap[b1]? = some (.cells #[.string zT] 9 (0, 0))) :
    Tgs (W.alloc (.cells #[.string aT, .string eT, .slice (some ⟨b1, 0, none⟩) 1 1, .slice none 0 0] 35)) (some ⟨W.heap.size, 0, none⟩) g3 := fun _ => by
  have hn := heap_alloc_new W (.cells #[.string aT, .string eT, .slice (some ⟨b1, 0, none⟩) 1 1, .slice none 0 0] 35)
  have s1 := strs_of1 ((Below.heap_alloc W (.cells #[.string aT, .string eT, .slice (some ⟨b1, 0, none⟩) 1 1, .slice none 0 0] 35) _ (Lg.lt_heap h1)).trans h1)
  refine ⟨_, rfl, by simp, fun k hk => ?_⟩
  have h3 : k < 1 := hk
  obtain rfl : k = 0 := by omega
  exact tgAt_of (Ad := some ⟨b1, 0, none⟩) (As := none) (cd := 1) (cs' := 0) hn rfl rfl rfl rfl s1 (none2 _)
theorem tgs4 (W : World) : Tgs (W.alloc (.cells #[.string aT, .string eT, .slice none 0 0, .slice none 0 0, .string aT, .string eT, .slice none 0 0, .slice none 0 0] 35)) (some ⟨W.heap.size, 0, none⟩) g4 := fun _ => by
  have hn := heap_alloc_new W (.cells #[.string aT, .string eT, .slice none 0 0, .slice none 0 0, .string aT, .string eT, .slice none 0 0, .slice none 0 0] 35)
  refine ⟨_, rfl, by simp, fun k hk => ?_⟩
  have h3 : k < 2 := hk
  rcases (show k = 0 ∨ k = 1 by omega) with rfl | rfl
  · exact tgAt_of (Ad := none) (As := none) (cd := 0) (cs' := 0) hn rfl rfl rfl rfl (none2 _) (none2 _)
  · exact tgAt_of (Ad := none) (As := none) (cd := 0) (cs' := 0) hn rfl rfl rfl rfl (none2 _) (none2 _)
theorem ord1 {W : World} (hE : Lg.Env W) {A : Option Addr} (h : Tgs W A g1) :
    Calls Tryd.prog 13 #[.slice A 3 3] W fun e w' => (∃ A' c', e = .returned (.tuple #[.slice A' 3 c', .int .i64 0]) ∧ Strs w' A' [aT, bT, cT]) ∧ Below W.heap.size W w' := by
  refine (porder_any A g1 3 W hE h (by decide) (by decide) f1).mono ?_
  rintro e w' ⟨⟨A', c', h1, h2⟩, hb⟩
  rw [ordF_ok k1, o1] at h1 h2
  rw [k1] at h1
  exact ⟨⟨A', c', h1, h2⟩, hb⟩
theorem chk {W : World} (hE : Lg.Env W) {A : Option Addr} {l : List Tg} {n : Nat} {k : Int} (hn : l.length = n) (h12 : n ≤ 1000) (h : Tgs W A l) (hf : ∀ t ∈ l, Fits t) (hk : checkF l = k) :
    Calls Tryd.prog 10 #[.slice A n n] W fun e w' => e = .returned (.int .i64 k) ∧ Below W.heap.size W w' := by
  subst hn
  rw [← hk]
  exact pcheck_any A l l.length W hE h h12 (Nat.le_refl _) hf
theorem strs_abc (W : World) : Strs (W.alloc (.cells #[.string aT, .string bT, .string cT] 9)) (some ⟨W.heap.size, 0, none⟩) [aT, bT, cT] := ⟨rfl, fun _ => ⟨_, rfl, by simp, fun j u hu => by
  rw [Lg.add_eq, Lg.cell_at (heap_alloc_new W _)]
  simpa using hu⟩⟩
theorem txt {W : World} {A F : Option Addr} {c d : Nat} (h1 : Strs W A [aT, bT, cT]) (h2 : Strs W F [aT, bT, cT]) :
    Calls Tryd.prog 15 #[.slice A 3 c, .slice F 3 d] W fun e w' => e = .returned (.bool true) ∧ Below W.heap.size W w' := by
  refine (texts_any A F [aT, bT, cT] [aT, bT, cT] c d W h1 h2 (by decide) (by decide)).mono ?_
  rintro e w' ⟨h3, h4⟩
  exact ⟨h3, h4.below⟩
theorem heap_keep {W V : World} {o : Obj} (hb : Below (W.alloc o).heap.size (W.alloc o) V) : V.heap[W.heap.size]? = some o := (hb.block _ (by simp)).trans (heap_alloc_new W o)
theorem below_a {w W V : World} {o : Obj} (h : Below w.heap.size w W) (hb : Below (W.alloc o).heap.size (W.alloc o) V) : Below w.heap.size w V := (h.alloc h.size o).trans (hb.mono (by have := h.size; simp; omega))
set_option maxHeartbeats 4000000 in
theorem awake_any (w : World) (hE : Lg.Env w) : Calls Tryd.prog 12 #[] w fun e w' => e = .returned (.bool true) ∧ Below w.heap.size w w' := by
  have EV := Lib.hid (fun W (h : Below w.heap.size w W) => hE.below h)
  clear hE
  go_enter Tryd.func12, Tryd.ntmps12
  go_wp2_with (fail)
  refine (on_any bT _ 1 1 _).mono ?_
  rintro e w1 ⟨rfl, hb1⟩
  have B1 := Lib.hid (below_a (Below.refl _ _) hb1)
  have H1 := Lib.hid (heap_keep hb1)
  clear hb1
  go_wp2_with (fail)
  refine (on_any aT _ 0 0 _).mono ?_
  rintro e w2 ⟨rfl, hb2⟩
  have B2 := Lib.hid (B1.out.trans (hb2.mono B1.out.size))
  have H2 := Lib.hid ((hb2.block _ (Lg.lt_heap H1.out)).trans H1.out)
  clear hb2
  go_wp2_with (fail)
  refine (on_any cT _ 1 1 _).mono ?_
  rintro e w3 ⟨rfl, hb3⟩
  have B3 := Lib.hid (below_a B2.out hb3)
  have H3 := Lib.hid ((hb3.block _ (by have := Lg.lt_heap H2.out; simp; omega)).trans ((Below.heap_alloc _ _ _ (Lg.lt_heap H2.out)).trans H2.out))
  have H4 := Lib.hid (heap_keep hb3)
  clear hb3
  go_wp2_with (fail)
  refine (ord1 (EV.out _ (B3.out.alloc B3.out.size _)) (tgs1 H3.out H4.out)).mono ?_
  rintro e w4 ⟨⟨A4, c4, rfl, hs4⟩, hb4⟩
  have B4 := Lib.hid (below_a B3.out hb4)
  have S4 := Lib.hid hs4
  clear hb4 hs4 H1 H2 H3 H4
  go_wp2_with (fail)
  refine (txt (S4.out.below ((Below.refl _ _).alloc (Nat.le_refl _) _)) (strs_abc w4)).mono ?_
  rintro e w5 ⟨rfl, hb5⟩
  have B5 := Lib.hid (below_a B4.out hb5)
  clear hb5
  go_wp2_with (fail)
  refine (on_any aT _ 1 1 _).mono ?_
  rintro e w6 ⟨rfl, hb6⟩
  have B6 := Lib.hid (below_a B5.out hb6)
  have H6 := Lib.hid (heap_keep hb6)
  clear hb6
  go_wp2_with (fail)
  refine (on_any bT _ 1 1 _).mono ?_
  rintro e w7 ⟨rfl, hb7⟩
  have B7 := Lib.hid (below_a B6.out hb7)
  have H7 := Lib.hid ((hb7.block _ (by have := Lg.lt_heap H6.out; simp; omega)).trans ((Below.heap_alloc _ _ _ (Lg.lt_heap H6.out)).trans H6.out))
  have H8 := Lib.hid (heap_keep hb7)
  clear hb7
  go_wp2_with (fail)
  refine (chk (EV.out _ (B7.out.alloc B7.out.size _)) (l := g2) rfl (by decide) (tgs2 H7.out H8.out) f2 k2).mono ?_
  rintro e w8 ⟨rfl, hb8⟩
  have B8 := Lib.hid (below_a B7.out hb8)
  clear hb8 H6 H7 H8
  go_wp2_with (fail)
  refine (on_any aT _ 1 1 _).mono ?_
  rintro e w9 ⟨rfl, hb9⟩
  have B9 := Lib.hid (below_a B8.out hb9)
  have H9 := Lib.hid (heap_keep hb9)
  clear hb9
  go_wp2_with (fail)
  refine (chk (EV.out _ (B9.out.alloc B9.out.size _)) (l := g3) rfl (by decide) (tgs3 H9.out) f3 k3).mono ?_
  rintro e w10 ⟨rfl, hb10⟩
  have B10 := Lib.hid (below_a B9.out hb10)
  clear hb10 H9
  go_wp2_with (fail)
  refine (on_any aT _ 0 0 _).mono ?_
  rintro e w11 ⟨rfl, hb11⟩
  have B11 := Lib.hid (B10.out.trans (hb11.mono B10.out.size))
  clear hb11
  go_wp2_with (fail)
  refine (on_any aT _ 0 0 _).mono ?_
  rintro e w12 ⟨rfl, hb12⟩
  have B12 := Lib.hid (B11.out.trans (hb12.mono B11.out.size))
  clear hb12
  go_wp2_with (fail)
  refine (chk (EV.out _ (B12.out.alloc B12.out.size _)) (l := g4) rfl (by decide) (tgs4 w12) f4 k4).mono ?_
  rintro e w13 ⟨rfl, hb13⟩
  have B13 := Lib.hid (below_a B12.out hb13)
  clear hb13
  go_wp2_with (fail)
  go_ret
  exact ⟨rfl, B13.out⟩
end Go.Proofs.YtoofflnaebkigaaDoor.Gr
