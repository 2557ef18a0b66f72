/- Joined by mkmerged.py: LgRp. -/
import Derived.Test.YtnheahologecfaaGreatDoorMb11
/- LgRp, what a claim needs of it (prune.py). -/
namespace Go.Proofs.YtnheahologecfaaGreatDoor.Lg
open Go.RowKit
set_option linter.unusedVariables false
set_option maxRecDepth 100000
theorem last_at {cmd : ByteArray} {n : Nat} (hn : cmd.size = n + 1) : (tl cmd).getLast? = some (cmd[n]'(by omega)) := by
  have h1 : (tl cmd).length = n + 1 := by rw [tl_len]; exact hn
  rw [List.getLast?_eq_getElem?, h1, Nat.add_sub_cancel, List.getElem?_eq_getElem (by omega)]
  rfl
theorem body_at {cmd : ByteArray} {n : Nat} (hn : cmd.size = n + 1) : tl (cmd.extract 0 n) = (tl cmd).dropLast := by
  have h1 : (tl cmd).length = n + 1 := by rw [tl_len]; exact hn
  rw [List.dropLast_eq_take, h1, Nat.add_sub_cancel]
  simp [tl]
theorem splitB_tl (c : UInt8) (s : ByteArray) : (pieces c s).map tl = splitB c (tl s) := by rw [pieces, map_tl_bs]
def ansOf : Res → List Stp × Nat
  | .ok out _ => (out, 0)
  | .err e => ([], e)
theorem says_of {w w' : World} {cmd : B} {r : Res} {e : Ending} (h : RpSays w w' r e) (hp : parse cmd = ansOf r) : ParseSays w' (fun _ => True) cmd e ∧ Below w.heap.size w w' := by
  obtain ⟨⟨A, k, c, m, q, rfl, hr, hk, hs⟩, hb⟩ := h
  cases r with
  | ok out l =>
    obtain ⟨rfl, rfl⟩ := hr
    exact ⟨⟨A, k, c, by rw [hp]; rfl, hk, by rw [hp]; exact hs⟩, hb⟩
  | err e =>
    obtain ⟨rfl, rfl⟩ := hr
    exact ⟨⟨A, k, c, by rw [hp]; rfl, hk, by rw [hp]; exact hs⟩, hb⟩
set_option maxHeartbeats 4000000 in
theorem rparse_any (cmd : ByteArray) (w : World) :
    Calls Tryz.prog 118 #[.string cmd] w fun e w' => ParseSays w' (fun _ => True) (tl cmd) e ∧ Below w.heap.size w w' := by
  by_cases hbig : 8192 < cmd.size
  · have hI : (8192 : Int) < (cmd.size : Int) := by omega
    have R : Hid (parse (tl cmd) = ([], 15)) := Lib.hid (by rw [parse, if_pos (by rw [tl_len]; exact hbig)])
    clear hbig
    go_enter Tryz.func118, Tryz.ntmps118
    go_wp2_with (fail)
    go_ret2
    exact ⟨ParseSays.none_ R.out, Below.refl _ _⟩
  by_cases h0 : cmd.size = 0
  · obtain rfl := empty_of h0
    have R : Hid (parse (tl ⟨#[]⟩) = ([], 0)) := Lib.hid rfl
    clear hbig h0
    go_enter Tryz.func118, Tryz.ntmps118
    go_wp2_with (fail)
    go_ret2
    exact ⟨ParseSays.none_ R.out, Below.refl _ _⟩
  obtain ⟨n, hn⟩ : ∃ n, cmd.size = n + 1 := ⟨cmd.size - 1, by omega⟩
  have hn6 : n ≤ 8191 := by omega
  have hnb : ¬ 8192 < (tl cmd).length := by rw [tl_len]; exact hbig
  have hne2 : ¬ tl cmd = [] := fun e => h0 (by rw [← tl_len, e]; rfl)
  have hla := last_at hn
  have hbo := body_at hn
  by_cases hl : cmd[n]'(by omega) = 10
  · have hlast : (((cmd[n]'(by omega)).toNat : Int) != 10) = false := by rw [hl]; rfl
    have hg : ¬ (tl cmd).getLast? ≠ some 10 := by rw [hla, hl]; simp
    have hsp : (pieces 10 (cmd.extract 0 n)).map tl = splitB 10 (tl cmd).dropLast := by rw [splitB_tl, hbo]
    have hsl : (pieces 10 (cmd.extract 0 n)).length = (splitB 10 (tl cmd).dropLast).length := by rw [← hsp, List.length_map]
    by_cases h64 : 64 < (splitB 10 (tl cmd).dropLast).length
    · have R : Hid (parse (tl cmd) = ([], 15)) := Lib.hid (by rw [parse, if_neg hnb, if_neg hne2, if_neg hg, if_pos h64])
      generalize hbody : cmd.extract 0 n = body at *
      generalize hLs : pieces 10 body = L at *
      have SP : Hid (Calls Tryz.prog 178 #[.string body, .int .u8 10] w fun e w' => (∃ A c, e = .returned (.slice A L.length c) ∧ L.length ≤ c ∧ Strs w' A L) ∧ Below w.heap.size w w') := Lib.hid ((rsplit_any body 10 w (by rw [← hbody]; simp; omega)).mono (by
        rintro e w' ⟨v, rfl, ho, hb⟩
        rw [hLs] at ho
        obtain ⟨A, c, rfl, h1, h2⟩ := own_strs ho
        exact ⟨⟨A, c, rfl, h1, h2⟩, hb⟩))
      have hnbI : ¬ (8192 : Int) < ((n + 1 : Nat) : Int) := by omega
      have hne : ¬ cmd.toList = [] := by rw [Lib.toList_data]; exact hne2
      have hne3 := some_ne (s := cmd) (by omega)
      have b1 : (0 : Int) ≤ (n : Int) := by omega
      have b2 : (n : Int) < ((n + 1 : Nat) : Int) := by omega
      have h64I : (64 : Int) < (L.length : Int) := by omega
      have HB := Lib.hid hbody
      clear hLs hsl hsp hg hl hla hbo hnb hne2 h0 hbig h64
      go_enter Tryz.func118, Tryz.ntmps118
      go_wp2_with (go_at_call 178; (with_reducible refine (SP.out).mono ?_); rintro e w1 ⟨⟨A, c, rfl, hAc, hst⟩, hb1⟩)
      go_ret2
      exact ⟨ParseSays.none_ R.out, hb1⟩
    · have hpz : ∀ p ∈ pieces 10 (cmd.extract 0 n), p.size ≤ 1000000 := fun p h => by
        have := pieces_part 10 (cmd.extract 0 n) p h
        simp at this
        omega
      have R : parse (tl cmd) = ansOf (bk 0 [] (splitB 10 (tl cmd).dropLast)) := by
        rw [parse, if_neg hnb, if_neg hne2, if_neg hg, if_neg h64]
        cases bk 0 [] (splitB 10 (tl cmd).dropLast) <;> rfl
      refine (rloop cmd (cmd.extract 0 n) (pieces 10 (cmd.extract 0 n)) w (by omega) hpz n hn hn6 hlast rfl rfl).mono ?_
      intro e w' h
      rw [hsp, mach_bk] at h
      exact says_of h R
  · have hlast : (((cmd[n]'(by omega)).toNat : Int) != 10) = true := by
      simp only [bne_iff_ne, ne_eq]
      intro e
      exact hl (UInt8.toNat_inj.1 (by have : (cmd[n]'(by omega)).toNat = 10 := by omega
                                      rw [this]; rfl))
    have hg : (tl cmd).getLast? ≠ some 10 := by rw [hla]; simpa using hl
    have R : Hid (parse (tl cmd) = ([], 20)) := Lib.hid (by rw [parse, if_neg hnb, if_neg hne2, if_pos hg])
    have hnbI : ¬ (8192 : Int) < ((n + 1 : Nat) : Int) := by omega
    have hne : ¬ cmd.toList = [] := by rw [Lib.toList_data]; exact hne2
    have hne3 := some_ne (s := cmd) (by omega)
    have b1 : (0 : Int) ≤ (n : Int) := by omega
    have b2 : (n : Int) < ((n + 1 : Nat) : Int) := by omega
    clear hg hl hla hbo hnb hne2 h0 hbig
    go_enter Tryz.func118, Tryz.ntmps118
    go_wp2_with (fail)
    go_ret2
    exact ⟨ParseSays.none_ R.out, Below.refl _ _⟩
end Go.Proofs.YtnheahologecfaaGreatDoor.Lg
