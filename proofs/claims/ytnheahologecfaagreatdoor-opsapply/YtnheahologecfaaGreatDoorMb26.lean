/- Joined by mkmerged.py: OpNest. -/
import Derived.Test.YtnheahologecfaaGreatDoorMb25
/- OpNest, what a claim needs of it (prune.py). -/
namespace Go.Proofs.YtnheahologecfaaGreatDoor.Ops
open Go.ChangeShapes Go.WideShapes Go.Deep Go.RowKit Go.ChangeMaps
set_option linter.unusedVariables false
section
variable {H : Type} {enc : TypeId × Value → H} {P : Program} {w : World} {base : Nat} {spare : Nat → Bool} {held : Bool}
def nestFields (P : Program) (tR : TypeId) (fs rs : Array Field) : Bool := oneCellFields P rs && decide (rs.size = 4) && decide (fs.size = 6) && (List.range 6).all fun i => match fs[i]? with
  | some f => f.offset == i && P.cellsOf f.type == (if i = 5 then 4 else 1) && (decide (i ≠ 5) || f.type == tR)
  | none => false
theorem nest_field {tR : TypeId} {fs rs : Array Field} (h : nestFields P tR fs rs = true) : oneCellFields P rs = true ∧ rs.size = 4 ∧ fs.size = 6 ∧ ∀ (i : Nat) (f : Field), fs[i]? = some f → f.offset = i ∧ P.cellsOf f.type = (if i = 5 then 4 else 1) ∧ (i = 5 → f.type = tR) := by
  unfold nestFields at h
  simp only [Bool.and_eq_true, decide_eq_true_eq] at h
  obtain ⟨⟨⟨h1, h2⟩, h3⟩, h4⟩ := h
  refine ⟨h1, h2, h3, fun i f hi => ?_⟩
  have hlt : i < fs.size := (Array.getElem?_eq_some_iff.1 hi).1
  have := List.all_eq_true.1 h4 i (List.mem_range.2 (by omega))
  simp only [hi, Bool.and_eq_true, beq_iff_eq, Bool.or_eq_true, decide_eq_true_eq] at this
  exact ⟨this.1.1, this.1.2, fun e => this.2.resolve_left (fun k => k e)⟩
theorem open_nest {tO tR : TypeId} {fs rs : Array Field} {fuel : Nat} {cs : List Value} {x : DataW H × List MemPlace} (hO : P.underlying tO = some (.struct fs)) (hR : P.underlying tR = some (.struct rs)) (hf : nestFields P tR fs rs = true)
    (h : DataW.trod enc P w base spare held fuel tO cs = some x) (hC : P.cellsOf tO = 9) (hCR : P.cellsOf tR = 4) :
    cs.length = 9 ∧ (∀ (j : Nat) (f : Field), j < 5 → fs[j]? = some f → ∃ n v y, cs[j]? = some v ∧ DataW.trod enc P w base spare held n f.type [v] = some y) ∧
      ∀ (j : Nat) (f : Field), rs[j]? = some f → ∃ n v y, cs[5 + j]? = some v ∧ DataW.trod enc P w base spare held n f.type [v] = some y := by
  obtain ⟨h1, h2, h3, h4⟩ := nest_field hf
  obtain ⟨ys, n, _, _, hlen, hyl, hat⟩ := DataW.trod_struct hO h
  rw [hC] at hlen
  have one : ∀ (l : List Value) (j : Nat) (hj : j < l.length), (l.drop j).take 1 = [l[j]] := fun l j hj => by
    rw [List.drop_eq_getElem_cons hj]; rfl
  refine ⟨hlen, fun j f hj hf => ?_, fun j f hf => ?_⟩
  · obtain ⟨o, c, _⟩ := h4 j f hf
    have g := hat j f hf
    rw [o, c, if_neg (by omega), one cs j (by omega), List.getElem?_eq_getElem (show j < ys.length by omega)] at g
    exact ⟨n, _, _, List.getElem?_eq_getElem (by omega), g⟩
  · have h5 : fs[5]? = some (fs[5]'(by omega)) := Array.getElem?_eq_getElem (by omega)
    obtain ⟨o, c, t⟩ := h4 5 _ h5
    have g := hat 5 _ h5
    rw [o, c, if_pos rfl, t rfl, List.getElem?_eq_getElem (show 5 < ys.length by omega)] at g
    obtain ⟨zs, n2, _, _, hl2, hz2, hat2⟩ := DataW.trod_struct hR g
    obtain ⟨o2, c2⟩ := hone_of h1 j f hf
    have hj : j < 4 := by have := (Array.getElem?_eq_some_iff.1 hf).1; omega
    have g2 := hat2 j f hf
    have hl : ((cs.drop 5).take 4).length = 4 := by simp; omega
    rw [o2, c2, one _ j (by omega), List.getElem?_eq_getElem (show j < zs.length by omega)] at g2
    refine ⟨n2, _, _, ?_, g2⟩
    rw [List.getElem_take, List.getElem_drop]
    exact List.getElem?_eq_getElem (by omega)
theorem open_nests {t tO tR : TypeId} {fs rs : Array Field} {fuel : Nat} {cs : List Value} {x : DataW H × List MemPlace} (ht : P.underlying t = some (.slice tO)) (hO : P.underlying tO = some (.struct fs)) (hR : P.underlying tR = some (.struct rs)) (hf : nestFields P tR fs rs = true)
    (hC : P.cellsOf tO = 9) (hCR : P.cellsOf tR = 4) (h : DataW.trod enc P w base spare held fuel t cs = some x) :
    cs = [.slice none 0 0] ∨
    ∃ (a : Addr) (len cap : Nat), cs = [.slice (some a) len cap] ∧ len ≤ cap ∧ cap ≤ maxLen ∧ ∀ i, i < len →
        (∀ (j : Nat) (f : Field), j < 5 → fs[j]? = some f → ∃ n v y, w.cell? (a.add (i * 9 + j)) = some v ∧ DataW.trod enc P w base spare held n f.type [v] = some y) ∧
        ∀ (j : Nat) (f : Field), rs[j]? = some f → ∃ n v y, w.cell? (a.add (i * 9 + (5 + j))) = some v ∧ DataW.trod enc P w base spare held n f.type [v] = some y := by
  obtain ⟨_, h2, h3, _⟩ := nest_field hf
  rcases open_slice ht h with ⟨h0, _⟩ | ⟨a, len, cap, m, n, D, Pl, hcs, hb, hl, hm, hmm, hx, hi⟩
  · exact .inl h0
  · refine .inr ⟨a, len, cap, hcs, hl, hm, fun i him => ?_⟩
    have him' : i < m := by rw [hmm]; split <;> omega
    obtain ⟨cs', hc, ht'⟩ := hi i him'
    rw [hC] at hc
    obtain ⟨hln, g1, g2⟩ := open_nest hO hR hf ht' hC hCR
    obtain ⟨_, hcl, hat⟩ := World.cells?_some hc
    refine ⟨fun j f hj hf => ?_, fun j f hf => ?_⟩
    · obtain ⟨n', v, y, hv, hy⟩ := g1 j f hj hf
      refine ⟨n', v, y, ?_, hy⟩
      rw [← Go.Deep.add_add, hat j (by omega), hv]
    · obtain ⟨n', v, y, hv, hy⟩ := g2 j f hf
      have hj : j < 4 := by have := (Array.getElem?_eq_some_iff.1 hf).1; omega
      refine ⟨n', v, y, ?_, hy⟩
      rw [← Go.Deep.add_add, hat (5 + j) (by omega), hv]
end
end Go.Proofs.YtnheahologecfaaGreatDoor.Ops
