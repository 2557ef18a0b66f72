/- Joined by mkmerged.py: OlAwake, OlNil. -/
import Derived.Test.YtmlaolmaopjhbaaGreatDoorMi38
/- OlAwake, what a claim needs of it (prune.py). -/
namespace Go.Proofs.YtmlaolmaopjhbaaGreatDoor.Ol
open Go.RowKit
open Dk (Dk Kp NoT DkS DkAt)
open Ops (Parts)
set_option linter.unusedVariables false
set_option maxRecDepth 100000
theorem opn0 (w : World) (hE : Lg.Env w) (W : World) (b m : Nat) (bw : Below w.heap.size w W) (hb : w.heap.size ≤ b) (hm : w.heap.size ≤ m) (hD : DkAt W b m 0 (D0 10000)) :
    Calls Tryz.prog 5 #[.pointer (some ⟨b, 0, none⟩)] W fun e w' => ∃ bo bl, e = .returned (.tuple #[.pointer (some ⟨bo, 0, none⟩), .int .i64 0]) ∧ St w w' bo bl b m 0 o0 := by
  refine (olopen_any w hE b m 0 (D0 10000) [] W bw hb hm hD (opens0 _) (by omega)).mono ?_
  rintro e w' ⟨⟨bo, bl, h1, h2, h3, h4⟩, hk⟩
  rw [opened0, parts0] at h4
  exact ⟨bo, bl, h1, bw.trans (hk.below (fun i hi => by rcases hi with rfl | rfl; exact hb; exact hm) bw.size), hb, hm, Nat.le_trans bw.size h3, Nat.le_trans bw.size h2, h4⟩
theorem opn2 (w : World) (hE : Lg.Env w) (W : World) (bo bl b m nn : Nat) (h : St w W bo bl b m nn o2) (hn : nn ≤ 50) :
    Calls Tryz.prog 5 #[.pointer (some ⟨b, 0, none⟩)] W fun e w' => ∃ bo bl, e = .returned (.tuple #[.pointer (some ⟨bo, 0, none⟩), .int .i64 0]) ∧ St w w' bo bl b m (nn + 1) o2 := by
  refine (olopen_any w hE b m nn (D2 10000) [ev1, ev2] W h.bw h.hb h.hm h.at_.dk (opens2 _) (by omega)).mono ?_
  rintro e w' ⟨⟨bo', bl', h1, h2, h3, h4⟩, hk⟩
  rw [opened2, parts2] at h4
  exact ⟨bo', bl', h1, h.bw.trans (hk.below (fun i hi => by rcases hi with rfl | rfl; exact h.hb; exact h.hm) h.bw.size), h.hb, h.hm, Nat.le_trans h.bw.size h3, Nat.le_trans h.bw.size h2, h4⟩
theorem list2 (w W : World) (bo bl b m nn : Nat) (h : St w W bo bl b m nn o2) :
    Calls Tryz.prog 7 #[.pointer (some ⟨bo, 0, none⟩)] W fun e w' => (∃ ad c, e = .returned (.slice (some ad) 1 c) ∧ 1 ≤ c ∧ w'.cell? ⟨ad.block, ad.off + 4, none⟩ = some (.int .i64 2)) ∧ Below W.heap.size W w' := by
  refine (plist_any W bo bl b m nn o2 h.at_).mono ?_
  rintro e w' ⟨⟨A, c, h1, h2, h3⟩, hb⟩
  obtain ⟨ad, Ag, cg, Af, cf, Ar, cr, rfl, _, _, _, _, _, _, c4, _⟩ := h3.nine_at (k := 0) (by show 0 < 1; omega)
  have e0 : ad.add (0 * 9) = ad := by simp [Addr.add]
  rw [e0] at c4
  exact ⟨⟨ad, c, h1, h2, c4⟩, hb⟩
set_option maxHeartbeats 8000000 in
theorem awake_any (w : World) (hE : Lg.Env w) : Calls Tryz.prog 9 #[] w fun e w' => e = .returned (.bool true) ∧ Below w.heap.size w w' := by
  have NW : Hid (Calls Tryz.prog 10 #[.int .i64 10000] w fun e w' => e = .returned (.tuple #[.pointer (some ⟨w.heap.size + 1, 0, none⟩), .int .i64 0]) ∧ DkAt w' (w.heap.size + 1) w.heap.size 0 (D0 10000) ∧ Below w.heap.size w w' ∧ w'.heap.size = w.heap.size + 2) := Lib.hid (Dk.pnew_yes 10000 w (by omega) (by omega))
  have O0 := Lib.hid (opn0 w hE)
  have O2 := Lib.hid (opn2 w hE)
  have LI := Lib.hid (list2 w)
  have ONE : Hid (∀ W, Calls Tryz.prog 38 #[] W fun e w' => (∃ g, e = .returned (.agg #[.string ⟨#[97]⟩, .slice (some ⟨g, 0, none⟩) 1 1, .slice none 0 0, .string ⟨#[116]⟩, .int .i64 0, .int .i64 0, .string ⟨#[]⟩, .string ⟨#[]⟩, .slice none 0 0]) ∧ Parts w' (oneO 0) (some ⟨g, 0, none⟩) 1 none 0 none 0) ∧ Below W.heap.size W w') := Lib.hid one_any
  have X1 := Lib.hid (do1 w hE)
  have X2 := Lib.hid (do2 w hE)
  have X3 := Lib.hid (do3 w hE)
  have SZ : Hid (∀ W bo bl b m nn, St w W bo bl b m nn o2 → Calls Tryz.prog 22 #[.pointer (some ⟨b, 0, none⟩)] W fun e w' => e = .returned (.int .i64 (Dk.sz (D2 10000).l : Int)) ∧ W = w') := Lib.hid fun W bo bl b m nn h => Dk.psize_any b m nn (D2 10000) W h.at_.dk
  clear hE
  generalize Dk.sz (D2 10000).l = z at *
  go_enter Tryz.func9, Tryz.ntmps9
  go_wp2_with (first
    | (go_at_call 10; (with_reducible refine (NW.out).mono ?_); rintro e w1 ⟨rfl, hd1, hb1, hs1⟩; have HS := Lib.hid hs1; clear hs1; have O0' := Lib.hid (O0.out w1 _ _ hb1 (Nat.le_succ _) (Nat.le_refl _) hd1))
    | (go_at_call 5; (with_reducible refine (O2.out _ _ _ _ _ _ s3 (by omega)).mono ?_); rintro e w8 ⟨bo2, bl2, rfl, s4⟩)
    | (go_at_call 5; (with_reducible refine (O0'.out).mono ?_); rintro e w2 ⟨bo, bl, rfl, s0⟩)
    | (go_at_call 38; (with_reducible refine (ONE.out _).mono ?_); rintro e wq ⟨⟨g, rfl, hp⟩, hbq⟩; have t2 := s2.below hbq)
    | (go_at_call 38; (with_reducible refine (ONE.out _).mono ?_); rintro e wq ⟨⟨g, rfl, hp⟩, hbq⟩; have t1 := s1.below hbq)
    | (go_at_call 38; (with_reducible refine (ONE.out _).mono ?_); rintro e wq ⟨⟨g, rfl, hp⟩, hbq⟩; have t0 := s0.below hbq)
    | (go_at_call 6; (with_reducible refine (X3.out _ _ _ _ _ _ _ t2 (by omega) hp).mono ?_); rintro e w7 ⟨rfl, s3⟩)
    | (go_at_call 6; (with_reducible refine (X2.out _ _ _ _ _ _ _ t1 (by omega) hp).mono ?_); rintro e w5 ⟨rfl, s2⟩)
    | (go_at_call 6; (with_reducible refine (X1.out _ _ _ _ _ _ _ t0 (by omega) hp).mono ?_); rintro e w3 ⟨rfl, s1⟩)
    | (go_at_call 22; (with_reducible refine (SZ.out _ _ _ _ _ _ s5).mono ?_); rintro e w' ⟨rfl, rfl⟩)
    | (go_at_call 22; (with_reducible refine (SZ.out _ _ _ _ _ _ s2).mono ?_); rintro e w' ⟨rfl, rfl⟩)
    | (go_at_call 7; (with_reducible refine (LI.out _ _ _ _ _ _ s4).mono ?_); rintro e w9 ⟨⟨ad, c, rfl, hc, y4⟩, hb9⟩; have s5 := s4.below hb9))
  go_ret
  exact ⟨rfl, s5.bw⟩
end Go.Proofs.YtmlaolmaopjhbaaGreatDoor.Ol
/- OlNil, what a claim needs of it (prune.py). -/
namespace Go.Proofs.YtmlaolmaopjhbaaGreatDoor.Ol
open Go.RowKit
set_option linter.unusedVariables false
set_option maxRecDepth 100000
theorem wopen_nil (W : World) : Calls Tryz.prog 26 #[.pointer none] W fun e w' => e = .returned (.tuple #[.pointer none, .string ⟨#[]⟩, .slice none 0 0, .int .i64 2]) ∧ W = w' := by
  go_enter Tryz.func26, Tryz.ntmps26
  go_wp2_with (fail)
  (try simp only [Exit.inBlock, Exit.then])
  refine bodyPost_ret (Wl.results_tmp4 rfl _ _ _) rfl ?_
  exact ⟨rfl, rfl⟩
theorem open_nil (W : World) : Calls Tryz.prog 5 #[.pointer none] W fun e w' => e = .returned (.tuple #[.pointer none, .int .i64 2]) ∧ W = w' := by
  have O := Lib.hid (wopen_nil W)
  go_enter Tryz.func5, Tryz.ntmps5
  go_wp2_with (go_at_call 26; (with_reducible refine (O.out).mono ?_); rintro e w' ⟨rfl, rfl⟩)
  go_ret2
  exact ⟨rfl, rfl⟩
theorem do_nil (k : Int) (W : World) : Calls Tryz.prog 6 #[.pointer none, .agg #[.int .i64 k, .string ⟨#[]⟩, .slice none 0 0, .slice none 0 0, .string ⟨#[]⟩, .int .i64 0, .int .i64 0, .string ⟨#[]⟩, .string ⟨#[]⟩, .slice none 0 0]] W fun e w' => e = .returned (.int .i64 2) ∧ Below W.heap.size W w' := by
  go_enter Tryz.func6, Tryz.ntmps6
  go_wp2_with (fail)
  go_ret
  exact ⟨rfl, (Below.refl _ _).alloc (Nat.le_refl _) _⟩
theorem list_nil (W : World) : Calls Tryz.prog 7 #[.pointer none] W fun e w' => e = .returned (.slice none 0 0) ∧ W = w' := by
  go_enter Tryz.func7, Tryz.ntmps7
  go_wp2_with (fail)
  go_ret
  exact ⟨rfl, rfl⟩
theorem dead_nil (W : World) : Calls Tryz.prog 8 #[.pointer none] W fun e w' => e = .returned (.bool false) ∧ W = w' := by
  go_enter Tryz.func8, Tryz.ntmps8
  go_wp2_with (fail)
  go_ret
  exact ⟨rfl, rfl⟩
theorem nil_walk (k : Int) (hwf : (Lit.int .i64 k).wf = true) (w : World) (hE : Lg.Env w) : Calls Tryz.prog 3 #[.int .i64 k] w fun e w' => e = .returned (.bool true) ∧ Below w.heap.size w w' := by
  have O := Lib.hid (open_nil w)
  have D := Lib.hid (do_nil k w)
  have L := Lib.hid list_nil
  have DE := Lib.hid dead_nil
  have AW := Lib.hid (fun w' (hb : Below w.heap.size w w') => awake_any w' (hE.below hb))
  clear hE
  go_enter Tryz.func3, Tryz.ntmps3
  go_wp2_with (first
    | (go_at_call 5; (with_reducible refine (O.out).mono ?_); rintro e w' ⟨rfl, rfl⟩)
    | (go_at_call 6; (with_reducible refine (D.out).mono ?_); rintro e w1 ⟨rfl, hb1⟩)
    | (go_at_call 7; (with_reducible refine (L.out _).mono ?_); rintro e w' ⟨rfl, rfl⟩)
    | (go_at_call 8; (with_reducible refine (DE.out _).mono ?_); rintro e w' ⟨rfl, rfl⟩)
    | (go_at_call 9; (with_reducible refine (AW.out _ hb1).mono ?_); rintro e w2 ⟨rfl, hb2⟩))
  go_ret
  exact ⟨rfl, hb1.trans (hb2.mono hb1.size)⟩
end Go.Proofs.YtmlaolmaopjhbaaGreatDoor.Ol
