/- The contract of keys.ReadFiles, and the chapter's examples: trestlelaw09.awake. -/
import Derived.Test.YtcpkhaebcmgehaaGreatDoorPkRf
namespace Go.Proofs.YtcpkhaebcmgehaaGreatDoor
open Go.RowKit
set_option linter.unusedVariables false
set_option maxRecDepth 100000
theorem readFiles_any (l : List UInt8) (hl : l.length ≤ 500000000) (w : World) :
    Calls Tryz.prog 43 #[.string (bs l)] w (ReadFSays l w) := by
  have RF := Lib.hid (readF_any l hl w)
  go_enter Tryz.func43, Tryz.ntmps43
  go_wp2_with (go_at_call 82; ((with_reducible refine (RF.out).mono ?_); rintro e w1 ⟨v, rfl, hown, hb1⟩))
  go_ret2
  exact ⟨v, rfl, hown, hb1⟩
theorem all_x : Pk.all takesF [120] = ([], 11) := by
  have h : Pk.nxt [120] = .bad 11 := by rfl
  have ht : (Pk.Rd.text ⟨[120], 0⟩) = ([], ⟨[120], 11⟩) := by unfold Pk.Rd.text; simp [h]
  have hl : (Pk.Rd.list ⟨[120], 0⟩) = ([], ⟨[120], 11⟩) := by unfold Pk.Rd.list; rw [ht, lst_nil]
  rw [all_bad (by rw [hl]; decide), hl]; rfl
theorem all_0 : Pk.all takesF [] = ([], 10) := by
  have h : Pk.nxt [] = .bad 10 := by rfl
  have ht : (Pk.Rd.text ⟨[], 0⟩) = ([], ⟨[], 10⟩) := by unfold Pk.Rd.text; simp [h]
  have hl : (Pk.Rd.list ⟨[], 0⟩) = ([], ⟨[], 10⟩) := by unfold Pk.Rd.list; rw [ht, lst_nil]
  rw [all_bad (by rw [hl]; decide), hl]; rfl
theorem dd (n : Nat) (h : n < 10) : Lib.decDigits n = [UInt8.ofNat (48 + n)] := by rw [Lib.decDigits, dif_pos h]
theorem ax_bytes : Pk.list [Fl.b ⟨⟨#[97]⟩, ⟨#[120]⟩⟩] = [49, 49, 58, 56, 58, 49, 58, 97, 44, 49, 58, 120, 44, 44, 44] := by
  have h1 : Pk.text [97] = [49, 58, 97, 44] := by unfold Pk.text; rw [dd _ (by decide)]; rfl
  have h2 : Pk.text [120] = [49, 58, 120, 44] := by unfold Pk.text; rw [dd _ (by decide)]; rfl
  have h3 : Fl.b ⟨⟨#[97]⟩, ⟨#[120]⟩⟩ = [49, 58, 97, 44, 49, 58, 120, 44] := by unfold Fl.b fileB; show Pk.text [97] ++ Pk.text [120] = _; rw [h1, h2]; rfl
  rw [h3]
  have h4 : Pk.text [49, 58, 97, 44, 49, 58, 120, 44] = [56, 58, 49, 58, 97, 44, 49, 58, 120, 44, 44] := by unfold Pk.text; rw [dd _ (by decide)]; rfl
  unfold Pk.list
  rw [List.flatMap_cons, List.flatMap_nil, h4, List.append_nil]
  unfold Pk.text
  rw [Lib.decDigits, dif_neg (by decide), dd _ (by decide)]
  rfl
theorem awake_any (w : World) (ht : Tab w) : Calls Tryz.prog 15 #[] w fun e w' => e = .returned (.bool true) ∧ Below w.heap.size w w' := by
  have R1 : Hid (∀ W, Calls Tryz.prog 43 #[.string ⟨#[120]⟩] W fun e w' => ∃ v, e = .returned (.tuple #[v, .int .i64 11]) ∧ Below W.heap.size W w') := Lib.hid (fun W => (readFiles_any [120] (by decide) W).mono (by
    rintro e w' ⟨v, h1, _, h3⟩
    rw [all_x] at h1
    exact ⟨v, h1, h3⟩))
  have R2 : Hid (∀ W, Calls Tryz.prog 43 #[.string ⟨#[]⟩] W fun e w' => ∃ v, e = .returned (.tuple #[v, .int .i64 10]) ∧ Below W.heap.size W w') := Lib.hid (fun W => (readFiles_any [] (by decide) W).mono (by
    rintro e w' ⟨v, h1, _, h3⟩
    rw [all_0] at h1
    exact ⟨v, h1, h3⟩))
  have G : Hid (∀ W, Tab W → Calls Tryz.prog 44 #[.slice none 0 0] W fun e w' => e = .returned (.string ⟨#[48, 58, 44]⟩) ∧ Below W.heap.size W w') := Lib.hid (fun W hW => (kgraph_any none [] 0 (by decide) (fun t h => by cases h) W hW (fun h => absurd h (by decide))).mono (by
    rintro e w' ⟨h1, h2⟩
    rw [List.map_nil, Pk.list_nil] at h1
    exact ⟨h1, h2⟩))
  have F : Hid (∀ W, Tab W → Calls Tryz.prog 45 #[.slice (some ⟨W.heap.size, 0, none⟩) 1 1] (W.alloc (.cells #[.string ⟨#[97]⟩, .string ⟨#[120]⟩] 71)) fun e w' => e = .returned (.string ⟨#[49, 49, 58, 56, 58, 49, 58, 97, 44, 49, 58, 120, 44, 44, 44]⟩) ∧ Below W.heap.size W w') := Lib.hid (fun W hW => by
    have hb : Below W.heap.size W (W.alloc (.cells #[.string ⟨#[97]⟩, .string ⟨#[120]⟩] 71)) := (Below.refl _ _).alloc (Nat.le_refl _) _
    have hn := heap_alloc_new W (.cells #[.string ⟨#[97]⟩, .string ⟨#[120]⟩] 71)
    refine (kfiles_any (some ⟨W.heap.size, 0, none⟩) [⟨⟨#[97]⟩, ⟨#[120]⟩⟩] 1 (by decide) (fun t h => by
      obtain rfl := List.mem_singleton.1 h
      exact ⟨by decide, by decide⟩) _ (hW.on hb) (fun _ => ⟨_, rfl, by simp, fun k hk => by
        obtain rfl : k = 0 := by simp at hk; omega
        exact ⟨(cell_heap hn 0).trans rfl, (cell_heap hn 1).trans rfl⟩⟩)).mono ?_
    rintro e w' ⟨h1, h2⟩
    rw [List.map_cons, List.map_nil, ax_bytes] at h1
    exact ⟨h1, hb.trans (h2.mono hb.size)⟩)
  go_enter Tryz.func15, Tryz.ntmps15
  go_wp2_with (fail)
  refine (R1.out _).mono ?_
  rintro e w1 ⟨v1, rfl, hb1⟩
  go_wp2_with (fail)
  refine (R2.out _).mono ?_
  rintro e w2 ⟨v2, rfl, hb2⟩
  have hb12 := hb1.trans (hb2.mono hb1.size)
  have ht2 := ht.on hb12
  go_wp2_with (first | (go_at_call 44; ((with_reducible refine (G.out _ ht2).mono ?_); rintro e w3 ⟨rfl, hb3⟩; have hb13 := hb12.trans (hb3.mono hb12.size); have ht3 := ht.on hb13)) | (go_at_call 45; ((with_reducible refine (F.out _ ht3).mono ?_); rintro e w4 ⟨rfl, hb4⟩)))
  go_ret
  exact ⟨rfl, hb13.trans (hb4.mono hb13.size)⟩
end Go.Proofs.YtcpkhaebcmgehaaGreatDoor
