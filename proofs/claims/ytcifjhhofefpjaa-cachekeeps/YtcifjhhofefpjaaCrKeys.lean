/- The contract of the reference's Keys. -/
import Derived.Test.YtcifjhhofefpjaaCrWalk
namespace Go.Proofs.Ytcifjhhofefpjaa.Cr
open Go.RowKit Go.Proofs.Ytcifjhhofefpjaa.Ca
set_option linter.unusedVariables false
set_option maxRecDepth 100000
theorem infoS : (Try.prog.info? 9).map (fun i => (i.zero, i.size, i.bytes)) = some (some (.string ⟨#[]⟩), 1, 16) := by kernel_rfl
theorem reads_one {w : World} {g : Nat} {u : Value} {T : TypeId} (h : w.heap[g]? = some (.cells #[u] T (0, 0))) : Reads w (g + 1) 1 (some ⟨g, 0, none⟩) 1 [u] := by
  refine ⟨rfl, fun _ => ⟨_, rfl, Nat.lt_succ_self _, fun j y hj => ?_⟩⟩
  rw [add_eq, cell_at h]
  simpa using hj
theorem mem1 {u : Value} (h0 : u.oneCell' = true) : ∀ y ∈ [u], y.oneCell' = true := by
  intro y hy
  rw [List.mem_singleton.1 hy]; exact h0
theorem rkeys_any {w : World} {B r most : Nat} {l : List (Th Int)} (h : RefAt w B r most l) (hl : l.length ≤ 1000000) :
    Calls Try.prog 22 #[.pointer (some ⟨r, 0, none⟩)] w fun e w' => ∃ v, e = .returned v ∧ w'.ownsRow w.heap.size 9 1 v l.length (l.map fun x => .string x.k) ∧ Below w.heap.size w w' := by
  obtain ⟨i0, hi, hz0, hz1, hz2⟩ := info_parts infoS
  have HH := Lib.hid h
  obtain ⟨A, cap, hr, hown⟩ := h.open_
  have hrl := h.lt
  have HT := Lib.hid (fun W (hW : Below w.heap.size w W) => (show W.cell? ⟨r, 0, none⟩ = some (.slice A l.length cap) ∧ Ths W A l from ⟨(hW.cell (p := ⟨r, 0, none⟩) hrl).trans ((cell_at hr 0).trans rfl), by
    refine Ths.of_own (B := B) (e := 72) (cap := cap) ⟨hown.1, ?_⟩
    rcases hown.2 with h0 | ⟨g, cp, cur, hv, hg, hgb, h2⟩
    · exact .inl h0
    · exact .inr ⟨g, cp, cur, hv, hg, (hW.block g (heap_lt hgb)).trans hgb, h2⟩⟩))
  clear h hr hown
  go_enter Try.func22, Try.ntmps22
  go_wp2_with (fail)
  go_loopw [3, 4] (fun v i wr => ∃ k : Nat, i = .int .i64 k ∧ k ≤ l.length ∧ wr.ownsRow w.heap.size 9 1 v k ((l.take k).map fun x => .string x.k) ∧ Below w.heap.size w wr) (fun _ i _ => l.length - (intOf i).toNat)
  case atStart => exact ⟨0, rfl, Nat.zero_le _, World.ownsRow_nil _ _ _ _, Below.refl _ _⟩
  case round =>
    obtain ⟨k, rfl, hk, hown, hb⟩ := hrel
    rename World => wr
    have c0 := (HT.out wr hb).1
    have hkI : (0 : Int) ≤ (k : Int) := by omega
    by_cases hlt : k < l.length
    · obtain ⟨ad, e, hc⟩ := (HT.out wr hb).2 (by omega)
      have g0 := (hc k hlt).1
      subst e
      have HS : Hid ((l.take (k + 1)).map (fun x => Value.string x.k) = (l.take k).map (fun x => Value.string x.k) ++ [.string l[k].k]) := Lib.hid (by rw [List.take_succ_eq_append_getElem hlt, List.map_append]; rfl)
      have hkL : (k : Int) < (l.length : Int) := by omega
      have HB := Lib.hid hb
      clear hc
      generalize l[k].k = s at *
      go_wp2_with (at_builtin; refine wpList_append_any _ rfl (.tmp 14) (.tmp 23) _ rfl w.heap.size 9 i0 _ 1 16 Try.underlying29 hi hz0 hz1 hz2 rfl (by omega) _ k _ rfl (hown.alloc _) _ (some ⟨wr.heap.size, 0, none⟩) 1 1 [.string s] rfl (reads_one (heap_alloc_new wr _)) (mem1 rfl) (by simp only [maxLen]; omega) (by omega) (by have := hb.size; simp; omega) ?_; intro v2 w2 hown2 hg2 hat2)
      go_roundw
      case rel =>
        refine ⟨k + 1, by go_num, by omega, ?_, ?_⟩
        · rw [HS.out]; exact hown2
        · exact (hb.alloc hb.size _).grown hg2 (by have := hb.size; simp; omega) (fun j hj => (hown.lt j hj).1)
      case measure => simp [intOf]; omega
    · obtain rfl : k = l.length := by omega
      rw [List.take_length] at hown
      go_wp2_with (fail)
      go_ret
      exact ⟨_, rfl, hown, hb⟩
end Go.Proofs.Ytcifjhhofefpjaa.Cr
