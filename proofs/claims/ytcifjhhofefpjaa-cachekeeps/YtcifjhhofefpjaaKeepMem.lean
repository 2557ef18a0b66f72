/- The law CacheKeeps' own maps, how they lie beside the cache. -/
import Derived.Test.YtcifjhhofefpjaaKeepSpec
import Derived.Test.YtcifjhhofefpjaaCaSPut
import Derived.Test.YtcifjhhofefpjaaCaAwake
import Derived.Maps.RangeWalk
import Derived.Maps.StringElems
namespace Go.Proofs.Ytcifjhhofefpjaa.Ca
open Go.RowKit Go.Maps Go.Shelf
set_option linter.unusedVariables false
set_option maxRecDepth 100000
theorem plain_bool_inv {e : TypeId} (he : Try.prog.underlying e = some .bool) {v : Value} {x : Bool} {ps : List MemPlace} (h : plainElem (H := Unit) Try.prog e v = some (.lit (.bool x), ps)) : v = .bool x := by
  unfold plainElem at h
  rw [he] at h
  cases v <;> simp at h
  obtain ⟨rfl, _⟩ := h
  rfl
/-- the map b counts: pm -/
def Counts (w : World) (b t : Nat) (pm : ByteArray → Nat) : Prop := ∃ D n, w.ownsMap (H := Unit) Try.prog 9 (plainElem Try.prog 3) b n D ∧ n ≤ t ∧ (∀ k : ByteArray, D.atKey (.string (tl k)) (.lit (.int .i64 0)) = .lit (.int .i64 (pm k))) ∧ ∀ k, pm k ≤ t
/-- the map b holds texts: la -/
def Texts (w : World) (b t : Nat) (la : ByteArray → ByteArray) : Prop := ∃ D n, w.ownsMap (H := Unit) Try.prog 9 (plainElem Try.prog 9) b n D ∧ n ≤ t ∧ (∀ k : ByteArray, D.atKey (.string (tl k)) (.lit (.string [])) = .lit (.string (tl (la k)))) ∧ ∀ k, (la k).size ≤ maxLen
/-- the map b is the set of these keys -/
def KeySet (w : World) (b : Nat) (ks : List ByteArray) : Prop := ∃ D n, w.ownsMap (H := Unit) Try.prog 9 (plainElem Try.prog 4) b n D ∧ n ≤ ks.length ∧ size D = ks.length ∧ ∀ k : ByteArray, (k ∈ ks → D.atKey (.string (tl k)) (.lit (.bool false)) = .lit (.bool true)) ∧ (k ∉ ks → Maps.has D (.string (tl k)) = false)
theorem wf_i64 {n : Int} (h0 : 0 ≤ n) (h1 : n ≤ 1000000000) : (Lit.int .i64 n).wf = true := by
  have h2 : IntKind.i64.min ≤ n := Int.le_trans (by decide) h0
  have h3 : n ≤ IntKind.i64.max := Int.le_trans h1 (by decide)
  simp only [Lit.wf, decide_eq_true h2, decide_eq_true h3, Bool.and_self]
theorem lit_ne {k k' : ByteArray} (h : k' ≠ k) : Lit.string (tl k') ≠ Lit.string (tl k) := fun e => h (tl_inj (by injection e))
theorem key_lit (k : ByteArray) : WideAt.IsKeyLit (.string (tl k)) := trivial
theorem zI : ∀ W, (zeroValue 3).run Try.prog W = .ok (.int .i64 0) W := fun W => by kernel_rfl
theorem zS : ∀ W, (zeroValue 9).run Try.prog W = .ok (.string ⟨#[]⟩) W := fun W => by kernel_rfl
theorem zB : ∀ W, (zeroValue 4).run Try.prog W = .ok (.bool false) W := fun W => by kernel_rfl
section
variable {w w' : World} {b t : Nat} {pm : ByteArray → Nat} {la : ByteArray → ByteArray} {ks : List ByteArray}
theorem Counts.move (h : Counts w b t pm) (hb : w'.heap[b]? = w.heap[b]?) : Counts w' b t pm := by
  obtain ⟨D, n, h1, h2⟩ := h
  exact ⟨D, n, own_move h1 hb, h2⟩
theorem Texts.move (h : Texts w b t la) (hb : w'.heap[b]? = w.heap[b]?) : Texts w' b t la := by
  obtain ⟨D, n, h1, h2⟩ := h
  exact ⟨D, n, own_move h1 hb, h2⟩
theorem KeySet.move (h : KeySet w b ks) (hb : w'.heap[b]? = w.heap[b]?) : KeySet w' b ks := by
  obtain ⟨D, n, h1, h2⟩ := h
  exact ⟨D, n, own_move h1 hb, h2⟩
theorem Counts.later (h : Counts w b t pm) {t' : Nat} (ht : t ≤ t') : Counts w b t' pm := by
  obtain ⟨D, n, h1, h2, h3, h4⟩ := h
  exact ⟨D, n, h1, Nat.le_trans h2 ht, h3, fun k => Nat.le_trans (h4 k) ht⟩
theorem Texts.later (h : Texts w b t la) {t' : Nat} (ht : t ≤ t') : Texts w b t' la := by
  obtain ⟨D, n, h1, h2, h3⟩ := h
  exact ⟨D, n, h1, Nat.le_trans h2 ht, h3⟩
theorem Counts.obj (h : Counts w b t pm) : ∃ es cl, w.heap[b]? = some (.map es cl) := by
  obtain ⟨D, n, h1, _⟩ := h
  exact own_obj h1
theorem Texts.obj (h : Texts w b t la) : ∃ es cl, w.heap[b]? = some (.map es cl) := by
  obtain ⟨D, n, h1, _⟩ := h
  exact own_obj h1
theorem Counts.look (h : Counts w b t pm) {k : ByteArray} (hk : k.size ≤ maxLen) : (Instr.lookup 46 (.map (some b)) (.string k) false).run Try.prog w = .ok (.int .i64 (pm k)) w := by
  obtain ⟨D, n, h1, _, h3, _⟩ := h
  obtain ⟨c, hrun, hat, _⟩ := h1.lookup_int kstr Try.underlying46 Try.underlying3 (zI w) (kof hk)
  rw [h3 k] at hat
  injection hat with hat
  injection hat with _ hat
  rw [hat]; exact hrun
theorem Texts.look (h : Texts w b t la) {k : ByteArray} (hk : k.size ≤ maxLen) : (Instr.lookup 47 (.map (some b)) (.string k) false).run Try.prog w = .ok (.string (la k)) w := by
  obtain ⟨D, n, h1, _, h3, _⟩ := h
  obtain ⟨v, ps, hrun, hv⟩ := h1.lookup kstr Try.underlying47 (zS w) (plainElem_string Try.underlying9 (by decide)) (kof hk)
  have e : D.atKey (.string (tl k)) (.lit (.string (⟨#[]⟩ : ByteArray).data.toList)) = .lit (.string (tl (la k))) := h3 k
  rw [e] at hv
  obtain ⟨s, rfl, hs, _⟩ := plainElem_string_inv Try.underlying9 hv
  have : s = la k := tl_inj (by injection hs with hs _; injection hs with hs; injection hs with hs; exact hs.symm)
  rw [this] at hrun
  exact hrun
theorem KeySet.look (h : KeySet w b ks) {k : ByteArray} (hk : k.size ≤ maxLen) : ((k ∈ ks) ∧ (Instr.lookup 49 (.map (some b)) (.string k) false).run Try.prog w = .ok (.bool true) w) ∨ ((k ∉ ks) ∧ (Instr.lookup 49 (.map (some b)) (.string k) false).run Try.prog w = .ok (.bool false) w) := by
  obtain ⟨D, n, h1, _, _, h3⟩ := h
  obtain ⟨v, ps, hrun, hv⟩ := h1.lookup kstr Try.underlying49 (zB w) (plainElem_bool Try.underlying4 false) (kof hk)
  by_cases hm : k ∈ ks
  · rw [(h3 k).1 hm] at hv
    rw [plain_bool_inv Try.underlying4 hv] at hrun
    exact .inl ⟨hm, hrun⟩
  · rw [atKey_of_not_has ((h3 k).2 hm)] at hv
    rw [plain_bool_inv Try.underlying4 hv] at hrun
    exact .inr ⟨hm, hrun⟩
theorem Counts.put (h : Counts w b t pm) (ht : t < 1000000) {k : ByteArray} (hk : k.size ≤ maxLen) (c : Nat) (hc : c ≤ t + 1) :
    ∃ w2, (Instr.mapUpdate 46 (.map (some b)) (.string k) (.int .i64 c)).run Try.prog w = .ok () w2 ∧ Counts w2 b (t + 1) (upd pm k c) ∧ w.grownBy w2 (some b) := by
  obtain ⟨D, n, h1, h2, h3, h4⟩ := h
  obtain ⟨w2, hrun, hown, hg⟩ := h1.update (val := .int .i64 c) kstr Try.underlying46 (by unfold maxLen; omega) (kof hk) (plainElem_int Try.underlying3 (wf_i64 (by omega) (by omega)))
  refine ⟨w2, hrun, ⟨_, _, hown, by omega, fun k' => ?_, fun k' => ?_⟩, hg⟩
  · by_cases e : k' = k
    · subst e
      rw [atKey_put_same h1.isMap (key_lit _), upd_same]
    · rw [atKey_put_other (lit_ne e), upd_other _ _ e]
      exact h3 k'
  · unfold upd
    split
    · exact hc
    · have := h4 k'; omega
theorem Texts.put (h : Texts w b t la) (ht : t < 1000000) {k v : ByteArray} (hk : k.size ≤ maxLen) (hv : v.size ≤ maxLen) :
    ∃ w2, (Instr.mapUpdate 47 (.map (some b)) (.string k) (.string v)).run Try.prog w = .ok () w2 ∧ Texts w2 b (t + 1) (upd la k v) ∧ w.grownBy w2 (some b) := by
  obtain ⟨D, n, h1, h2, h3, h4⟩ := h
  obtain ⟨w2, hrun, hown, hg⟩ := h1.update (val := .string v) kstr Try.underlying47 (by unfold maxLen; omega) (kof hk) (plainElem_string Try.underlying9 hv)
  refine ⟨w2, hrun, ⟨_, _, hown, by omega, fun k' => ?_, fun k' => ?_⟩, hg⟩
  · by_cases e : k' = k
    · subst e
      rw [atKey_put_same h1.isMap (key_lit _), upd_same]
    · rw [atKey_put_other (lit_ne e), upd_other _ _ e]
      exact h3 k'
  · unfold upd
    split
    · exact hv
    · exact h4 k'
theorem KeySet.made (w : World) : KeySet (w.alloc (.map #[] 0)) w.heap.size [] := ⟨_, 0, World.ownsMap_made w _ _ _, Nat.le_refl _, rfl, fun k => ⟨(fun h => by cases h), fun _ => rfl⟩⟩
theorem Counts.made (w : World) : Counts (w.alloc (.map #[] 0)) w.heap.size 0 (fun _ => 0) := ⟨_, 0, World.ownsMap_made w _ _ _, Nat.le_refl _, fun k => rfl, fun _ => Nat.le_refl _⟩
theorem Texts.made (w : World) : Texts (w.alloc (.map #[] 0)) w.heap.size 0 (fun _ => ⟨#[]⟩) := ⟨_, 0, World.ownsMap_made w _ _ _, Nat.le_refl _, fun k => rfl, fun _ => Nat.zero_le _⟩
theorem KeySet.add (h : KeySet w b ks) {k : ByteArray} (hk : k.size ≤ maxLen) (hn : k ∉ ks) (hl : ks.length < 1000000) :
    ∃ w2, (Instr.mapUpdate 49 (.map (some b)) (.string k) (.bool true)).run Try.prog w = .ok () w2 ∧ KeySet w2 b (ks ++ [k]) ∧ w.grownBy w2 (some b) := by
  obtain ⟨D, n, h1, h2, h3, h4⟩ := h
  obtain ⟨w2, hrun, hown, hg⟩ := h1.update (val := .bool true) kstr Try.underlying49 (by unfold maxLen; omega) (kof hk) (plainElem_bool Try.underlying4 true)
  refine ⟨w2, hrun, ⟨_, _, hown, by simp; omega, ?_, fun k' => ?_⟩, hg⟩
  · rw [size_put (h1.tidy kstr), (h4 k).2 hn, h3]
    simp
  · by_cases e : k' = k
    · subst e
      exact ⟨fun _ => atKey_put_same h1.isMap (key_lit _) _ _, fun h => absurd (by simp) h⟩
    · rw [atKey_put_other (lit_ne e), has_put_other (lit_ne e)]
      refine ⟨fun h => (h4 k').1 ?_, fun h => (h4 k').2 (fun h' => h (by simp [h']))⟩
      rcases List.mem_append.1 h with h | h
      · exact h
      · exact absurd (List.mem_singleton.1 h) e
theorem KeySet.len (h : KeySet w b ks) (ty : TypeId) : (Builtin.len_ #[49] ty #[.map (some b)]).run Try.prog w = .ok (.int .i64 ks.length) w := by
  obtain ⟨D, n, h1, h2, h3, h4⟩ := h
  have := h1.len Try.underlying49 ty
  rw [h3] at this
  exact this
end
/-- the cache and the law's two maps, in memory -/
structure KM (w0 W : World) (B c m most t b7 b8 : Nat) (L : List ThB) (pm : ByteArray → Nat) (la : ByteArray → ByteArray) : Prop where
  is : S.Is W B c m most t L
  cnt : Counts W b7 t pm
  txt : Texts W b8 t la
  n7 : b7 ≠ m
  n8 : b8 ≠ m
  n78 : b7 ≠ b8
  l7 : B ≤ b7
  l8 : B ≤ b8
  low : Below B w0 W
theorem is_low {W : World} {B c m most t : Nat} {L : List ThB} (h : S.Is W B c m most t L) : B ≤ W.heap.size := by
  obtain ⟨_, _, _, h, _⟩ := h
  have := h.map.lt
  have := h.bm
  omega
theorem is_keep_map {W W' : World} {B c m most t b : Nat} {L : List ThB} (h : S.Is W B c m most t L) (ho : ∃ es cl, W.heap[b]? = some (.map es cl)) (hbm : b ≠ m) (hg : ∀ j, j < W.heap.size → j ≠ b → W'.heap[j]? = W.heap[j]?) : S.Is W' B c m most t L := by
  obtain ⟨cl, D, E, h, rfl⟩ := h
  obtain ⟨es, c1, ho⟩ := ho
  refine ⟨cl, D, E, h.keep ?_ ?_ (fun e he => ?_), rfl⟩
  · exact hg c (heap_lt h.hdr) (by rintro rfl; rw [h.hdr] at ho; cases ho)
  · exact hg m h.map.lt hbm.symm
  · exact hg e.b (heap_lt (h.things e he)) (by rintro rfl; rw [h.things e he] at ho; cases ho)
theorem map_frC {TC TT : TypeId} {m : Nat} {W W' : World} {b : Nat} (ho : ∃ es cl, W.heap[b]? = some (.map es cl)) (hbm : b ≠ m) (f : FrC TC TT m W W') : W'.heap[b]? = W.heap[b]? := by
  obtain ⟨es, cl, ho⟩ := ho
  exact f.2 b (heap_lt ho) hbm (fun cs e => by rw [ho] at e; cases e) (fun cs e => by rw [ho] at e; cases e)
section
variable {w0 W W' : World} {B c m most t b7 b8 : Nat} {L L' : List ThB} {pm pm' : ByteArray → Nat} {la la' : ByteArray → ByteArray}
theorem KM.call (h : KM w0 W B c m most t b7 b8 L pm la) {r : Value} {e : Ending} (s : S.Says W B c m most (t + 1) L' r e W') : KM w0 W' B c m most (t + 1) b7 b8 L' pm la :=
  ⟨s.2.1, (h.cnt.move (map_frC h.cnt.obj h.n7 s.2.2.2)).later (Nat.le_succ _), (h.txt.move (map_frC h.txt.obj h.n8 s.2.2.2)).later (Nat.le_succ _), h.n7, h.n8, h.n78, h.l7, h.l8, h.low.trans s.2.2.1⟩
theorem KM.below (h : KM w0 W B c m most t b7 b8 L pm la) (hb : Below W.heap.size W W') : KM w0 W' B c m most t b7 b8 L pm la := by
  have e7 : W'.heap[b7]? = W.heap[b7]? := by
    obtain ⟨es, cl, ho⟩ := h.cnt.obj
    exact hb.block _ (heap_lt ho)
  have e8 : W'.heap[b8]? = W.heap[b8]? := by
    obtain ⟨es, cl, ho⟩ := h.txt.obj
    exact hb.block _ (heap_lt ho)
  exact ⟨h.is.below hb, h.cnt.move e7, h.txt.move e8, h.n7, h.n8, h.n78, h.l7, h.l8, h.low.trans (hb.mono (is_low h.is))⟩
theorem KM.later (h : KM w0 W B c m most t b7 b8 L pm la) {t' : Nat} (ht : t ≤ t') : KM w0 W B c m most t' b7 b8 L pm la :=
  ⟨h.is.later ht, h.cnt.later ht, h.txt.later ht, h.n7, h.n8, h.n78, h.l7, h.l8, h.low⟩
theorem KM.putCnt (h : KM w0 W B c m most t b7 b8 L pm la) (hc : Counts W' b7 (t + 1) pm') (hg : W.grownBy W' (some b7)) : KM w0 W' B c m most (t + 1) b7 b8 L pm' la := by
  have ho : ∀ j, j < W.heap.size → j ≠ b7 → W'.heap[j]? = W.heap[j]? := fun j hj hne => hg.block j hj (fun e => hne (by injection e))
  obtain ⟨es, cl, h8⟩ := h.txt.obj
  exact ⟨(is_keep_map h.is h.cnt.obj h.n7 ho).later (Nat.le_succ _), hc, (h.txt.move (ho b8 (heap_lt h8) h.n78.symm)).later (Nat.le_succ _), h.n7, h.n8, h.n78, h.l7, h.l8, h.low.grown hg (is_low h.is) (fun k e => by injection e with e; subst e; exact h.l7)⟩
theorem KM.putTxt (h : KM w0 W B c m most t b7 b8 L pm la) (hc : Texts W' b8 (t + 1) la') (hg : W.grownBy W' (some b8)) : KM w0 W' B c m most (t + 1) b7 b8 L pm la' := by
  have ho : ∀ j, j < W.heap.size → j ≠ b8 → W'.heap[j]? = W.heap[j]? := fun j hj hne => hg.block j hj (fun e => hne (by injection e))
  obtain ⟨es, cl, h7⟩ := h.cnt.obj
  exact ⟨(is_keep_map h.is h.txt.obj h.n8 ho).later (Nat.le_succ _), (h.cnt.move (ho b7 (heap_lt h7) h.n78)).later (Nat.le_succ _), hc, h.n7, h.n8, h.n78, h.l7, h.l8, h.low.grown hg (is_low h.is) (fun k e => by injection e with e; subst e; exact h.l8)⟩
end
/-- a call's block stays -/
theorem opblk_frC {TC TT : TypeId} {m b : Nat} {W W' : World} {cs : Array Value} (hT : 37 ≠ TC) (hT' : 37 ≠ TT) (hb : W.heap[b]? = some (.cells cs 37 (0, 0))) (hm : ∃ es cl, W.heap[m]? = some (.map es cl)) (f : FrC TC TT m W W') : W'.heap[b]? = some (.cells cs 37 (0, 0)) := by
  obtain ⟨es, cl, hm⟩ := hm
  exact (f.2 b (heap_lt hb) (fun e => by subst e; rw [hm] at hb; cases hb) (fun cs e => by rw [hb] at e; injection e with e; injection e with _ e; exact hT e) (fun cs e => by rw [hb] at e; injection e with e; injection e with _ e; exact hT' e)).trans hb
theorem opblk_map {b d : Nat} {W W' : World} {cs : Array Value} (hb : W.heap[b]? = some (.cells cs 37 (0, 0))) (hd : ∃ es cl, W.heap[d]? = some (.map es cl)) (hg : W.grownBy W' (some d)) : W'.heap[b]? = some (.cells cs 37 (0, 0)) := by
  obtain ⟨es, cl, hd⟩ := hd
  exact (hg.block b (heap_lt hb) (fun e => by injection e with e; subst e; rw [hd] at hb; cases hb)).trans hb
theorem sis_map {W : World} {B c m most t : Nat} {L : List ThB} (h : S.Is W B c m most t L) : ∃ es cl, W.heap[m]? = some (.map es cl) := by
  obtain ⟨_, _, _, h, _⟩ := h
  exact own_obj h.map
end Go.Proofs.Ytcifjhhofefpjaa.Ca
