/- Joined by mkmerged.py: MnValue. -/
import Derived.Test.YtdidnlkilleljaaGreatDoorMf31
import Derived.Deep.RegionHeld3
/- MnValue, what a claim needs of it (prune.py). -/
namespace Go.Proofs.YtdidnlkilleljaaGreatDoor.Mn
open Go.RowKit
open Lg (BelowX Lies)
open Fs (fc fc_len fc_cell Fls B)
open Bx (RightF Out)
open Gr (Fits isT find)
set_option linter.unusedVariables false
set_option maxRecDepth 100000
def FreshOk (w0 : World) (a : Adr) (l : List Tg) (snap : List Fl) (n : Nat) : Prop :=
  ∀ (bs : List Nat) (dep : Nat) (o : ByteArray → Bool) (t : Tg) (s : ByteArray) (k : Kn) (W : World) (Ad As : Option Addr) (cd cs : Nat), find l s = some t → Lg.Strs w0 Ad t.ds → Lg.Strs w0 As t.ss → MnAt w0 a bs (names l) dep k o W → FineK (isN l) k → Chn l n dep o →
    Calls Tryz.prog 41 #[.agg #[.string t.n, .string t.c, .slice Ad t.ds.length cd, .slice As t.ss.length cs], .pointer (some ⟨a.bsn, 0, none⟩), .pointer (some ⟨a.bv, 0, none⟩), .pointer (some ⟨a.bf, 0, none⟩), .pointer (some ⟨a.bt, 0, none⟩)] W
      (ValSays w0 a bs (names l) dep W (freshF (find l) (Fs.get snap) (runF a.fuel) (VAL l snap a.fuel n o) (l.length + 1) t k).1 (freshF (find l) (Fs.get snap) (runF a.fuel) (VAL l snap a.fuel n o) (l.length + 1) t k).2 o)
def ValueOk (w0 : World) (a : Adr) (l : List Tg) (snap : List Fl) (n : Nat) : Prop :=
  ∀ (bs : List Nat) (dep : Nat) (o : ByteArray → Bool) (s : ByteArray) (k : Kn) (W : World), MnAt w0 a bs (names l) dep k o W → FineK (isN l) k → isT l s = true → Chn l n dep o →
    Calls Tryz.prog 46 #[.string s, .pointer (some ⟨a.bo, 0, none⟩), .pointer (some ⟨a.bk, 0, none⟩), .pointer (some ⟨a.bt, 0, none⟩), .pointer (some ⟨a.bfr, 0, none⟩)] W
      (ValSays w0 a bs (names l) dep W (VAL l snap a.fuel n o k s).1 (VAL l snap a.fuel n o k s).2 o)
theorem MnAt.cbo {w0 : World} {a : Adr} {bs : List Nat} {nms : List ByteArray} {dep : Nat} {k : Kn} {o : ByteArray → Bool} {W : World} (h : MnAt w0 a bs nms dep k o W) : W.cell? ⟨a.bo, 0, none⟩ = some (.map (some a.om)) := (cell_heap h.bx.o 0).trans rfl
theorem MnAt.cbk {w0 : World} {a : Adr} {bs : List Nat} {nms : List ByteArray} {dep : Nat} {k : Kn} {o : ByteArray → Bool} {W : World} (h : MnAt w0 a bs nms dep k o W) : W.cell? ⟨a.bk, 0, none⟩ = some (.map (some a.km)) := (cell_heap h.bx.k 0).trans rfl
theorem MnAt.cbt {w0 : World} {a : Adr} {bs : List Nat} {nms : List ByteArray} {dep : Nat} {k : Kn} {o : ByteArray → Bool} {W : World} (h : MnAt w0 a bs nms dep k o W) : W.cell? ⟨a.bt, 0, none⟩ = some a.tv := (cell_heap h.bx.t 0).trans rfl
theorem MnAt.cbfr {w0 : World} {a : Adr} {bs : List Nat} {nms : List ByteArray} {dep : Nat} {k : Kn} {o : ByteArray → Bool} {W : World} (h : MnAt w0 a bs nms dep k o W) : W.cell? ⟨a.bfr, 0, none⟩ = some (.func (.func 41) #[] #[.pointer (some ⟨a.bsn, 0, none⟩), .pointer (some ⟨a.bv, 0, none⟩), .pointer (some ⟨a.bf, 0, none⟩), .pointer (some ⟨a.bt, 0, none⟩)]) := (cell_heap h.bx.r 0).trans rfl
theorem MnAt.cbv {w0 : World} {a : Adr} {bs : List Nat} {nms : List ByteArray} {dep : Nat} {k : Kn} {o : ByteArray → Bool} {W : World} (h : MnAt w0 a bs nms dep k o W) : W.cell? ⟨a.bv, 0, none⟩ = some (.func (.func 46) #[] #[.pointer (some ⟨a.bo, 0, none⟩), .pointer (some ⟨a.bk, 0, none⟩), .pointer (some ⟨a.bt, 0, none⟩), .pointer (some ⟨a.bfr, 0, none⟩)]) := (cell_heap h.bx.v 0).trans rfl
theorem MnAt.cbsn {w0 : World} {a : Adr} {bs : List Nat} {nms : List ByteArray} {dep : Nat} {k : Kn} {o : ByteArray → Bool} {W : World} (h : MnAt w0 a bs nms dep k o W) : W.cell? ⟨a.bsn, 0, none⟩ = some a.sv := (cell_heap h.bx.s 0).trans rfl
theorem MnAt.cbf {w0 : World} {a : Adr} {bs : List Nat} {nms : List ByteArray} {dep : Nat} {k : Kn} {o : ByteArray → Bool} {W : World} (h : MnAt w0 a bs nms dep k o W) : W.cell? ⟨a.bf, 0, none⟩ = some (.int .i64 a.fuel) := (cell_heap h.bx.f 0).trans rfl
theorem val_was {l : List Tg} {snap : List Fl} {fu : Int} {n : Nat} {o : ByteArray → Bool} {k : Kn} {s : ByteArray} (h : o s = true) : VAL l snap fu (n + 1) o k s = (failed 31 s ⟨#[]⟩, k) := by
  show val _ _ _ _ (n + 1) o k s = _
  rw [val, if_pos h]
theorem val_known {l : List Tg} {snap : List Fl} {fu : Int} {n : Nat} {o : ByteArray → Bool} {k : Kn} {s : ByteArray} {r : Rs} (h : o s = false) (hr : k s = some r) : VAL l snap fu (n + 1) o k s = (r, k) := by
  show val _ _ _ _ (n + 1) o k s = _
  rw [val, if_neg (by simp [h]), hr]
theorem val_new {l : List Tg} {snap : List Fl} {fu : Int} {n : Nat} {o : ByteArray → Bool} {k : Kn} {s : ByteArray} {t : Tg} (h : o s = false) (hr : k s = none) (ht : find l s = some t) : VAL l snap fu (n + 1) o k s = ((freshF (find l) (Fs.get snap) (runF fu) (VAL l snap fu n (upO o s true)) (l.length + 1) t k).1, upR (freshF (find l) (Fs.get snap) (runF fu) (VAL l snap fu n (upO o s true)) (l.length + 1) t k).2 s (freshF (find l) (Fs.get snap) (runF fu) (VAL l snap fu n (upO o s true)) (l.length + 1) t k).1) := by
  show val _ _ _ _ (n + 1) o k s = _
  rw [val, if_neg (by simp [h]), hr, ht]
theorem fresh_opened {l : List Tg} {snap : List Fl} {fu : Int} {n m : Nat} {o : ByteArray → Bool} {k : Kn} {s : ByteArray} {t : Tg} (hr : k s = none) : (freshF (find l) (Fs.get snap) (runF fu) (VAL l snap fu n (upO o s true)) m t k).2 s = none := by
  rw [fresh_open (x := s) (val_open _ n (upO o s true) (by unfold upO; rw [if_pos rfl])) m t k]
  exact hr
set_option maxHeartbeats 8000000 in
theorem value_any {w0 : World} {a : Adr} {l : List Tg} {snap : List Fl} {T F : Option Addr} {c d : Nat} (hC : Cx w0 a l snap T F c d) {n : Nat} (hF : FreshOk w0 a l snap n) : ValueOk w0 a l snap (n + 1) := by
  intro bs dep o s k W hM hk hs hch
  obtain ⟨t, ht⟩ : ∃ t, find l s = some t := by
    unfold isT at hs
    cases e : find l s with
    | none => rw [e] at hs; cases hs
    | some t => exact ⟨t, rfl⟩
  have htn := (Gr.find_some ht).2
  have hsz : s.size ≤ 1000000 := by rw [← htn]; exact (hC.fit t (Gr.find_some ht).1).n
  have hll := hC.good.few
  have hdl := hch.dep_le
  have hsm : s.size ≤ maxLen := by simp only [maxLen]; omega
  obtain ⟨W1, eW⟩ : ∃ W1, W1 = W.alloc (.cells #[.int .i64 0, .string ⟨#[]⟩, .string ⟨#[]⟩, .slice none 0 0] 37) := ⟨_, rfl⟩
  have hb1 : Below W.heap.size W W1 := by rw [eW]; exact (Below.refl _ _).alloc (Nat.le_refl _) _
  have q1 : W1.heap[W.heap.size]? = some (.cells #[.int .i64 0, .string ⟨#[]⟩, .string ⟨#[]⟩, .slice none 0 0] 37 (0, 0)) := by rw [eW]; exact heap_alloc_new W _
  have hz1 := lt_heap q1
  have M1 := Lib.hid (hM.more hb1 (Nat.le_refl _) hz1)
  have K1 : Hid (KeepM a.km a.om W W1) := Lib.hid (.of hb1)
  have hhi := hM.hi
  have Q1 : Hid (∀ V, KeepM a.km a.om W1 V → V.heap[W.heap.size]? = some (.cells #[.int .i64 0, .string ⟨#[]⟩, .string ⟨#[]⟩, .slice none 0 0] 37 (0, 0))) := Lib.hid fun V hV => (hV.block _ hz1 (by omega) (by omega)).trans q1
  have HM := Lib.hid hM
  have HN : Hid ((names l).length = l.length) := Lib.hid (by simp [names])
  clear q1
  cases ho : o s with
  | true =>
    have E := Lib.hid (val_was (l := l) (snap := snap) (fu := a.fuel) (n := n) (k := k) ho)
    rw [E.out]
    have L1 := M1.out.isOpen (s := s) hsm
    rw [ho] at L1
    have cbo := M1.out.cbo
    rw [eW] at L1 cbo
    have END : Hid (∀ V, Below W1.heap.size W1 V → ValSays w0 a bs (names l) dep W (failed 31 s ⟨#[]⟩) k o (.returned (.agg #[.int .i64 31, .string s, .string ⟨#[]⟩, .slice none 0 0])) ((((V.setCell ⟨W.heap.size, 0, none⟩ (.int .i64 31)).setCell ⟨W.heap.size, 1, none⟩ (.string s)).setCell ⟨W.heap.size, 2, none⟩ (.string ⟨#[]⟩)).setCell ⟨W.heap.size, 3, none⟩ (.slice none 0 0))) := Lib.hid fun V hV =>
      val_end (r := failed 31 s ⟨#[]⟩) (M1.out.below hV) (K1.out.then hV) (Nat.le_refl _) Lies.none_ (Nat.le_refl _)
    clear hM hk hch ho E hF hC htn ht hs
    generalize ValSays w0 a bs (names l) dep W (failed 31 s ⟨#[]⟩) k o = Q at *
    go_enter Tryz.func46, Tryz.ntmps46
    go_wp2_with (go_at_call 45; rw [← eW]; (with_reducible refine (failed_any _ _ _ _).mono ?_); rintro e w2 ⟨rfl, b2⟩; have q2 := Q1.out _ (.of b2); obtain ⟨⟨u0, x0⟩, ⟨u1, x1⟩, ⟨u2, x2⟩, ⟨u3, x3⟩, y0, y1, y2, y3⟩ := four q2)
    refine bodyPost_ret (results_cell rfl _ _ _ ⟨W.heap.size, 0, none⟩ _ _ rfl (load_res (set4 q2 _ _ _ _) rfl)) rfl ?_
    exact END.out _ b2
  | false =>
    have L1 := M1.out.isOpen (s := s) hsm
    rw [ho] at L1
    have cbo := M1.out.cbo
    have cbk := M1.out.cbk
    rcases M1.out.known (s := s) hsm with ⟨hks, L2⟩ | ⟨r, A, rc, hks, L2, hlr, hrc⟩
    · obtain ⟨W2, eW2⟩ : ∃ W2, W2 = W1.alloc (.cells #[.int .i64 0, .string ⟨#[]⟩, .string ⟨#[]⟩, .slice none 0 0] 37) := ⟨_, rfl⟩
      have b2 : Below W1.heap.size W1 W2 := by rw [eW2]; exact (Below.refl _ _).alloc (Nat.le_refl _) _
      have M2 := M1.out.below b2
      obtain ⟨W3, HU3, M3, K3⟩ := M2.open_ (s := s) (by rw [HN.out]; simp only [maxLen]; omega) hsm true
      have c2bo := M2.cbo
      have c3bt := M3.cbt
      rw [hC.tv] at c3bt
      have FD : Hid (Calls Tryz.prog 21 #[.slice T l.length c, .string s] W3 fun e w' => ∃ Ad As cd cs, e = .returned (.tuple #[.agg #[.string t.n, .string t.c, .slice Ad t.ds.length cd, .slice As t.ss.length cs], .bool true]) ∧ Lg.Strs w0 Ad t.ds ∧ Lg.Strs w0 As t.ss ∧ Below W3.heap.size W3 w') := Lib.hid ((Gr.find_any T l c s w0 W3 hC.tg M3.bw (by omega)).mono (by
        rintro e w' ⟨⟨t', Ad, As, cd, cs, h1, h2, h3, h4⟩, h5⟩
        rw [ht] at h2
        have h2 : t' = t := h2
        subst h2
        rw [hs] at h1
        exact ⟨Ad, As, cd, cs, h1, h3, h4, h5⟩))
      have FR : Hid (∀ V Ad As cd cs, Lg.Strs w0 Ad t.ds → Lg.Strs w0 As t.ss → MnAt w0 a (W.heap.size :: bs) (names l) (dep + 1) k (upO o s true) V → Calls Tryz.prog 41 #[.agg #[.string t.n, .string t.c, .slice Ad t.ds.length cd, .slice As t.ss.length cs], .pointer (some ⟨a.bsn, 0, none⟩), .pointer (some ⟨a.bv, 0, none⟩), .pointer (some ⟨a.bf, 0, none⟩), .pointer (some ⟨a.bt, 0, none⟩)] V
          (ValSays w0 a (W.heap.size :: bs) (names l) (dep + 1) V (freshF (find l) (Fs.get snap) (runF a.fuel) (VAL l snap a.fuel n (upO o s true)) (l.length + 1) t k).1 (freshF (find l) (Fs.get snap) (runF a.fuel) (VAL l snap a.fuel n (upO o s true)) (l.length + 1) t k).2 (upO o s true))) := Lib.hid fun V Ad As cd cs h1 h2 h3 =>
        hF (W.heap.size :: bs) (dep + 1) (upO o s true) t s k V Ad As cd cs ht h1 h2 h3 hk (hch.next ho hs)
      have E := Lib.hid (val_new (l := l) (snap := snap) (fu := a.fuel) (n := n) ho hks ht)
      have NO := Lib.hid (fresh_opened (l := l) (snap := snap) (fu := a.fuel) (n := n) (m := l.length + 1) (o := o) (t := t) hks)
      rw [E.out]
      clear E
      generalize freshF (find l) (Fs.get snap) (runF a.fuel) (VAL l snap a.fuel n (upO o s true)) (l.length + 1) t k = rk at *
      obtain ⟨r6, k6⟩ := rk
      simp only at FR NO
      have MEM := Lib.hid (names_mem hs)
      have OB := Lib.hid (upO_back ho)
      have DL := Lib.hid hdl
      have M3' := Lib.hid M3
      have KK : Hid (KeepM a.km a.om W1 W3) := Lib.hid ((KeepM.of b2).trans K3)
      have HM3 := M3.bw.size
      rw [eW2, eW] at HU3 c2bo
      rw [eW] at L1 cbo cbk L2
      have ln := Lib.hid (show (names l).length < maxLen by rw [HN.out]; simp only [maxLen]; omega)
      have ln2 : Hid (∀ d, d ≤ dep → 2 * (names l).length + d < maxLen) := Lib.hid fun d hd => by rw [HN.out]; simp only [maxLen]; omega
      clear hM hk hch ho hF hC htn ht hs hks M2 M3 K3 b2 hdl hll
      generalize hQ : ValSays w0 a bs (names l) dep W (r6, upR k6 s r6).fst (r6, upR k6 s r6).snd o = Q
      have END : Hid (∀ V A c, MnAt w0 a (W.heap.size :: bs) (names l) dep (upR k6 s r6) o V → KeepM a.km a.om W V → Lies V (fun g => g ∉ W.heap.size :: bs) 2 A r6.files.length (fc r6.files) → r6.files.length ≤ c → Q (.returned (.agg #[.int .i64 r6.err, .string r6.at_, .string r6.text, .slice A r6.files.length c])) ((((V.setCell ⟨W.heap.size, 0, none⟩ (.int .i64 r6.err)).setCell ⟨W.heap.size, 1, none⟩ (.string r6.at_)).setCell ⟨W.heap.size, 2, none⟩ (.string r6.text)).setCell ⟨W.heap.size, 3, none⟩ (.slice A r6.files.length c))) := Lib.hid fun V A c h1 h2 h3 h4 => by
        rw [← hQ]
        exact val_end h1 h2 (Nat.le_refl _) h3 h4
      clear hQ
      go_enter Tryz.func46, Tryz.ntmps46
      go_upto_region 8 with (go_at_call 21; (with_reducible refine (FD.out).mono ?_); rintro e w4 ⟨Ad, As, cd, cs, rfl, hsd, hss, b4⟩)
      obtain ⟨W5, eW5⟩ : ∃ W5, W5 = w4.alloc (.cells #[.string t.n, .string t.c, .slice Ad t.ds.length cd, .slice As t.ss.length cs] 47) := ⟨_, rfl⟩
      have b5 : Below w4.heap.size w4 W5 := by rw [eW5]; exact (Below.refl _ _).alloc (Nat.le_refl _) _
      have q5 : W5.heap[w4.heap.size]? = some (.cells #[.string t.n, .string t.c, .slice Ad t.ds.length cd, .slice As t.ss.length cs] 47 (0, 0)) := by rw [eW5]; exact heap_alloc_new w4 _
      have b35 : Below W3.heap.size W3 W5.drew := (b4.trans (b5.mono b4.size)).drew
      have M5 := M3'.out.below b35
      have K5 := KK.out.then b35
      have F5 := Lib.hid (FR.out W5.drew Ad As cd cs hsd hss M5)
      have TC : Hid (∀ V : World, V.heap[w4.heap.size]? = W5.heap[w4.heap.size]? → V.cell? ⟨w4.heap.size, 0, none⟩ = some (.string t.n) ∧ V.cell? ⟨w4.heap.size, 1, none⟩ = some (.string t.c) ∧ V.cell? ⟨w4.heap.size, 2, none⟩ = some (.slice Ad t.ds.length cd) ∧ V.cell? ⟨w4.heap.size, 3, none⟩ = some (.slice As t.ss.length cs)) := Lib.hid fun V hV => by
        have q := hV.trans q5
        exact ⟨(cell_heap q 0).trans rfl, (cell_heap q 1).trans rfl, (cell_heap q 2).trans rfl, (cell_heap q 3).trans rfl⟩
      have kS5 : (fun V : World => V.cell? ⟨a.bk, 0, none⟩ = some (.map (some a.km)) ∧ V.cell? ⟨a.bfr, 0, none⟩ = some (.func (.func 41) #[] #[.pointer (some ⟨a.bsn, 0, none⟩), .pointer (some ⟨a.bv, 0, none⟩), .pointer (some ⟨a.bf, 0, none⟩), .pointer (some ⟨a.bt, 0, none⟩)]) ∧ V.cell? ⟨w4.heap.size, 0, none⟩ = some (.string t.n) ∧ V.cell? ⟨w4.heap.size, 1, none⟩ = some (.string t.c) ∧ V.cell? ⟨w4.heap.size, 2, none⟩ = some (.slice Ad t.ds.length cd) ∧ V.cell? ⟨w4.heap.size, 3, none⟩ = some (.slice As t.ss.length cs)) W5 := ⟨M5.cbk, M5.cbfr, TC.out W5 rfl⟩
      have kS5d : (fun V : World => V.cell? ⟨a.bk, 0, none⟩ = some (.map (some a.km)) ∧ V.cell? ⟨a.bfr, 0, none⟩ = some (.func (.func 41) #[] #[.pointer (some ⟨a.bsn, 0, none⟩), .pointer (some ⟨a.bv, 0, none⟩), .pointer (some ⟨a.bf, 0, none⟩), .pointer (some ⟨a.bt, 0, none⟩)]) ∧ V.cell? ⟨w4.heap.size, 0, none⟩ = some (.string t.n) ∧ V.cell? ⟨w4.heap.size, 1, none⟩ = some (.string t.c) ∧ V.cell? ⟨w4.heap.size, 2, none⟩ = some (.slice Ad t.ds.length cd) ∧ V.cell? ⟨w4.heap.size, 3, none⟩ = some (.slice As t.ss.length cs)) W5.drew := ⟨M5.cbk, M5.cbfr, TC.out W5 rfl⟩
      have h45 := lt_heap q5
      have h4t : a.top ≤ w4.heap.size := by have := M3'.out.hi.2.2; have := b4.size; omega
      have h4k : w4.heap.size ≠ a.km ∧ w4.heap.size ≠ a.om := by omega
      have K5' := Lib.hid K5
      have M5' := Lib.hid M5
      rw [← eW5]
      clear eW5 q5 b5 b4 FR FD hsd hss K5 M5
      go_region_held3 (fun V : World => V.cell? ⟨a.bk, 0, none⟩ = some (.map (some a.km)) ∧ V.cell? ⟨a.bfr, 0, none⟩ = some (.func (.func 41) #[] #[.pointer (some ⟨a.bsn, 0, none⟩), .pointer (some ⟨a.bv, 0, none⟩), .pointer (some ⟨a.bf, 0, none⟩), .pointer (some ⟨a.bt, 0, none⟩)]) ∧ V.cell? ⟨w4.heap.size, 0, none⟩ = some (.string t.n) ∧ V.cell? ⟨w4.heap.size, 1, none⟩ = some (.string t.c) ∧ V.cell? ⟨w4.heap.size, 2, none⟩ = some (.slice Ad t.ds.length cd) ∧ V.cell? ⟨w4.heap.size, 3, none⟩ = some (.slice As t.ss.length cs)) (first | (with_reducible exact kS5) | (with_reducible exact kS5d) | (with_reducible exact kS6) | (with_reducible exact kS7) | go_keep) (first
        | (go_at_call 41; (with_reducible refine (F5.out).mono ?_); rintro e w6 ⟨A6, c6, rfl, hl6, hc6, M6, K6⟩; obtain ⟨W7, HU7, M7, K7⟩ := M6.learn ln.out hsm MEM.out NO.out hl6 hc6 (d' := dep - 1) (by have := DL.out; omega); obtain ⟨W8, HU8, M8, K8⟩ := M7.open_ (s := s) (ln2.out _ (by omega)) hsm false; have c7bo := M7.cbo; have c8bk := M8.cbk; obtain ⟨A8, c8, L8, hl8, hc8⟩ := M8.known1 hsm (r := r6) (by unfold upR; rw [if_pos rfl]); have K08 : KeepM a.km a.om W1 W8 := ((K5'.out.trans K6).trans K7).trans K8; have q8 := Q1.out _ K08; obtain ⟨⟨u0, x0⟩, ⟨u1, x1⟩, ⟨u2, x2⟩, ⟨u3, x3⟩, y0, y1, y2, y3⟩ := four q8; have kS6 : (fun V : World => V.cell? ⟨a.bk, 0, none⟩ = some (.map (some a.km)) ∧ V.cell? ⟨a.bfr, 0, none⟩ = some (.func (.func 41) #[] #[.pointer (some ⟨a.bsn, 0, none⟩), .pointer (some ⟨a.bv, 0, none⟩), .pointer (some ⟨a.bf, 0, none⟩), .pointer (some ⟨a.bt, 0, none⟩)]) ∧ V.cell? ⟨w4.heap.size, 0, none⟩ = some (.string t.n) ∧ V.cell? ⟨w4.heap.size, 1, none⟩ = some (.string t.c) ∧ V.cell? ⟨w4.heap.size, 2, none⟩ = some (.slice Ad t.ds.length cd) ∧ V.cell? ⟨w4.heap.size, 3, none⟩ = some (.slice As t.ss.length cs)) w6 := ⟨M6.cbk, M6.cbfr, TC.out w6 (K6.block _ h45 h4k.1 h4k.2)⟩; have kS7 : (fun V : World => V.cell? ⟨a.bk, 0, none⟩ = some (.map (some a.km)) ∧ V.cell? ⟨a.bfr, 0, none⟩ = some (.func (.func 41) #[] #[.pointer (some ⟨a.bsn, 0, none⟩), .pointer (some ⟨a.bv, 0, none⟩), .pointer (some ⟨a.bf, 0, none⟩), .pointer (some ⟨a.bt, 0, none⟩)]) ∧ V.cell? ⟨w4.heap.size, 0, none⟩ = some (.string t.n) ∧ V.cell? ⟨w4.heap.size, 1, none⟩ = some (.string t.c) ∧ V.cell? ⟨w4.heap.size, 2, none⟩ = some (.slice Ad t.ds.length cd) ∧ V.cell? ⟨w4.heap.size, 3, none⟩ = some (.slice As t.ss.length cs)) W7 := ⟨M7.cbk, M7.cbfr, TC.out W7 ((K6.trans K7).block _ h45 h4k.1 h4k.2)⟩))
      all_goals
       clear kS5 kS5d kS6 kS7
       go_wp2_with (fail)
       refine bodyPost_ret (results_cell rfl _ _ _ ⟨W.heap.size, 0, none⟩ _ _ rfl (load_res (set4 q8 _ _ _ _) rfl)) rfl ?_
       refine END.out _ _ _ ?_ (K1.out.trans K08) hl8 hc8
       have := M8
       rw [OB.out, Nat.sub_add_cancel DL.out.2] at this
       exact this
    · have E := Lib.hid (val_known (l := l) (snap := snap) (fu := a.fuel) (n := n) ho hks)
      rw [E.out]
      rw [eW] at L1 cbo cbk L2
      have b2 : Below W.heap.size W ((W.alloc (.cells #[.int .i64 r.err, .string r.at_, .string r.text, .slice A r.files.length rc] 37)).alloc (.cells #[.int .i64 r.err, .string r.at_, .string r.text, .slice A r.files.length rc] 37)) := ((Below.refl _ _).alloc (Nat.le_refl _) _).alloc (by simp) _
      have hz2 : W1.heap.size = W.heap.size + 1 := by rw [eW]; simp
      have LR : Hid (Lies W (fun g => g ∉ bs) 2 A r.files.length (fc r.files)) := Lib.hid (hlr.mono (by decide) fun g hg hs => by
        have hne : g ≠ W.heap.size := fun e => hg (by rw [e]; exact List.mem_cons_self ..)
        exact ⟨fun hm => hg (List.mem_cons_of_mem _ hm), (hb1.block g (by omega)).symm⟩)
      clear hz2
      clear hM hk hch ho E hF hC htn ht hs hlr hks eW
      go_enter Tryz.func46, Tryz.ntmps46
      go_wp2_with (fail)
      refine bodyPost_ret (results_cell rfl _ _ _ ⟨W.heap.size, 0, none⟩ _ _ rfl (load_res (heap_alloc_lt (heap_alloc_new W _)) rfl)) rfl ?_
      exact ⟨A, rc, rfl, LR.out.mono (by decide) fun g hg hs => ⟨hg, b2.block g hs⟩, hrc, HM.out.below b2, .of b2⟩
end Go.Proofs.YtdidnlkilleljaaGreatDoor.Mn
