/- Joined by mkmerged.py: SymW1, SymW2, SymW3, SymW4. -/
import Derived.Test.YtlndnpfjneeeeaaGreatDoorMh11
import Derived.Test.YtlndnpfjneeeeaaGreatDoorMh13
import Derived.Deep.QuietTactic
import Derived.Shelf.SlSortCmp.KitK
import Derived.Sort.WalkB2
import Derived.Sort.WalkB12
import Derived.Deep.LoopGhost
import Derived.BigRegion
import Derived.Shelf.SlSortCmp.QuietGrown
/- SymW1, what a claim needs of it (prune.py). -/
namespace Go.Proofs.YtlndnpfjneeeeaaGreatDoor.Sy
open Go.Shelf Go.RowKit Go.Lib Go.Sort
set_option linter.unusedVariables false
instance : Inhabited Fl := ⟨⟨⟨#[]⟩, ⟨#[]⟩⟩⟩
def enc (f : Fl) : List Value := [.string f.p, .string f.d]
theorem enc_len (f : Fl) : (enc f).length = 2 := rfl
theorem cells_at {W w0 : World} {blk off : Nat} {d0 dk : Array Fl} (S : SWK enc 2 w0 blk off dk W) (R : RowK enc 2 w0 blk off d0) (hs : dk.size = d0.size) {i : Nat} (hi : i < dk.size) :
    (W.cell? ⟨blk, off + i * 2, none⟩ = some (.string dk[i]!.p) ∧ W.cell? ⟨blk, off + i * 2 + 1, none⟩ = some (.string dk[i]!.d)) ∧ W.frozen? ⟨blk, off + i * 2, none⟩ = false ∧ W.frozen? ⟨blk, off + i * 2 + 1, none⟩ = false := by
  have h := S.holds R.hblk R.hH hs
  have h0 := HoldsK.cell h hi (c := 0) (by omega)
  have h1 := HoldsK.cell h hi (c := 1) (by omega)
  exact ⟨⟨h0.1.trans rfl, h1.1.trans rfl⟩, h0.2, h1.2⟩
set_option maxHeartbeats 4000000 in
set_option maxRecDepth 1000000 in
theorem swapRange_any (fv : Value) (blk off cap a b n : Nat) (d0 d : Array Fl) (w0 w : World) (R : RowK enc 2 w0 blk off d0) (hs : d0.size = d.size) (S : SWK enc 2 w0 blk off d w) (hab : a + n ≤ b) (hb : b + n ≤ d.size) (hsz : d.size ≤ 1000000) :
    Calls Tryz.prog 295 #[.slice (some ⟨blk, off, none⟩) d.size cap, .int .i64 a, .int .i64 b, .int .i64 n, fv] w fun e w' => e = .returned (.tuple #[]) ∧ ∃ d', Swr a b n d d' ∧ SWK enc 2 w0 blk off d' w' := by
  have mixed : Tryz.prog.follows Departure.mixedOrders = true := by kernel_rfl
  have S0 : Hid (SWK enc 2 w0 blk off d w) := S
  clear S
  go_enter Tryz.func295, Tryz.ntmps295
  go_wp2
  go_loopg [10] n (fun kx s10 wr => ∃ (i : Nat) (dk : Array Fl), s10 = .int .i64 i ∧ i ≤ n ∧ n - i ≤ kx ∧ Hid (SWK enc 2 w0 blk off dk wr) ∧ Hid (Swr a b i d dk))
  case atStart => exact ⟨0, d, rfl, Nat.zero_le _, Nat.le_refl _, S0, Lib.hid (Swr.zero a b d)⟩
  case round =>
    clear S0
    obtain ⟨i, dk, rfl, hin, hkx, S1, heq⟩ := hrel
    have hds : dk.size = d.size := heq.out.size
    by_cases hlt : (i : Int) < (n : Int)
    · have hi : i < n := by omega
      obtain ⟨x, hx⟩ : ∃ x, x = a + i := ⟨_, rfl⟩
      obtain ⟨y, hy⟩ : ∃ y, y = b + i := ⟨_, rfl⟩
      have S2 : Hid (∀ n, SWK enc 2 w0 blk off (swp dk x y) ((((((wr.drewN n).setCell ⟨blk, off + x * 2, none⟩ (.string dk[y]!.p)).setCell ⟨blk, off + x * 2 + 1, none⟩ (.string dk[y]!.d)).setCell ⟨blk, off + y * 2, none⟩ (.string dk[x]!.p)).setCell ⟨blk, off + y * 2 + 1, none⟩ (.string dk[x]!.d)))) := Lib.hid fun n => (S1.out.drewN n).swap R.hk R.hblk x y (by omega) (by omega)
      have T2 : Hid (Swr a b (i + 1) d (swp dk x y)) := Lib.hid (by rw [hx, hy]; exact heq.out.step (by omega) (by omega))
      have hxy : x < y := by omega
      obtain ⟨⟨cx0, cx1⟩, fx0, fx1⟩ := cells_at S1.out R (by omega) (i := x) (by omega)
      obtain ⟨⟨cy0, cy1⟩, fy0, fy1⟩ := cells_at S1.out R (by omega) (i := y) (by omega)
      have e1 : (a : Int) + (i : Int) = (x : Int) := by omega
      have e2 : (b : Int) + (i : Int) = (y : Int) := by omega
      have g1 : IntKind.i64.wrap (x : Int) = (x : Int) := by rw [IntKind.wrap_i64]; omega
      have g2 : IntKind.i64.wrap (y : Int) = (y : Int) := by rw [IntKind.wrap_i64]; omega
      have p1 : (0 : Int) ≤ (x : Int) := by omega
      have p2 : (0 : Int) ≤ (y : Int) := by omega
      have b1 : (x : Int) < (d.size : Int) := by omega
      have b2 : (y : Int) < (d.size : Int) := by omega
      have t1 : ((x : Int)).toNat = x := by omega
      have t2 : ((y : Int)).toNat = y := by omega
      generalize dk[x]! = vx at *
      generalize dk[y]! = vy at *
      clear S1 heq
      have o1 : off + x * 2 + 1 ≠ off + x * 2 := by omega
      have o2 : off + y * 2 ≠ off + x * 2 := by omega
      have o3 : off + y * 2 ≠ off + x * 2 + 1 := by omega
      have o4 : off + y * 2 + 1 ≠ off + x * 2 := by omega
      have o5 : off + y * 2 + 1 ≠ off + x * 2 + 1 := by omega
      have o6 : off + y * 2 + 1 ≠ off + y * 2 := by omega
      clear hx hy hxy
      go_wp2_with fail
      refine wp_region_ex (C := fun w' => ∃ n, w' = wr.drewN n) 21 (fun k => k == 7) (by kernel_rfl) (by kernel_rfl) (fun _ _ d _ _ h => by cases d <;> exact h) ⟨1, rfl⟩ ?_
      simp only [List.take_succ_cons, List.take_zero, List.drop_succ_cons, List.drop_zero]
      repeat (refine wpQ3_step rfl (fun K hK => ?_); go_simp; first | (refine hK _ ?_; clear hK K) | (apply Exists.intro; refine ⟨fun _ => ?_, hK _ ?_⟩; (first | (intro _; rfl)); clear hK K))
      refine wpQ3_ex (v := .int .i64 y) rfl (.inl ⟨rfl, fun _ => ?_⟩) ?_
      · go_simp
      repeat (refine wpQ3_step rfl (fun K hK => ?_); go_simp; first | (refine hK _ ?_; clear hK K) | (apply Exists.intro; refine ⟨fun _ => ?_, hK _ ?_⟩; (first | (intro _; rfl)); clear hK K))
      refine wpQ3_nil ?_
      rintro _ ⟨n0, rfl⟩
      have S3 := Lib.hid (S2.out n0)
      clear S2
      go_wp2_with fail
      go_roundg (n - (i + 1))
      case measure => omega
      case rel => exact ⟨i + 1, swp dk x y, by first | rfl | go_num | (congr 1; omega), by omega, Nat.le_refl _, S3, T2⟩
    · go_wp2
      go_end0
      obtain rfl : i = n := by omega
      exact ⟨rfl, dk, heq.out, S1.out⟩
end Go.Proofs.YtlndnpfjneeeeaaGreatDoor.Sy
/- SymW2, what a claim needs of it (prune.py). -/
namespace Go.Proofs.YtlndnpfjneeeeaaGreatDoor.Sy
open Go.Shelf Go.RowKit Go.Lib Go.Sort
set_option linter.unusedVariables false
set_option maxHeartbeats 4000000 in
set_option maxRecDepth 1000000 in
theorem rotate_any (fv : Value) (blk off cap a m b : Nat) (d0 d : Array Fl) (w0 w : World) (R : RowK enc 2 w0 blk off d0) (hs : d0.size = d.size) (S : SWK enc 2 w0 blk off d w) (ham : a < m) (hmb : m < b) (hb : b ≤ d.size) (hsz : d.size ≤ 1000000) :
    Calls Tryz.prog 258 #[.slice (some ⟨blk, off, none⟩) d.size cap, .int .i64 a, .int .i64 m, .int .i64 b, fv] w fun e w' => e = .returned (.tuple #[]) ∧ ∃ d', Rot a m b d d' ∧ SWK enc 2 w0 blk off d' w' := by
  have S0 : Hid (SWK enc 2 w0 blk off d w) := S
  clear S
  have n0 : (m : Int) - (a : Int) = ((m - a : Nat) : Int) := by omega
  have n1 : (b : Int) - (m : Int) = ((b - m : Nat) : Int) := by omega
  have AT : Hid (m - (m - a) = a ∧ m + (b - m) = b) := Lib.hid ⟨by omega, by omega⟩
  go_enter Tryz.func258, Tryz.ntmps258
  go_wp2
  go_loopg [10, 11] (b - a) (fun kx s10 s11 wr => ∃ (i j : Nat) (dk : Array Fl), s10 = .int .i64 i ∧ s11 = .int .i64 j ∧ 0 < i ∧ 0 < j ∧ i ≤ m - a ∧ j ≤ b - m ∧ i + j ≤ kx ∧ dk.size = d.size ∧ Hid (SWK enc 2 w0 blk off dk wr) ∧ Hid (∀ d', Rot (m - i) m (m + j) dk d' → Rot a m b d d'))
  case atStart => exact ⟨m - a, b - m, d, by go_num, by go_num, by omega, by omega, Nat.le_refl _, Nat.le_refl _, by omega, rfl, S0, Lib.hid fun d' h => by rw [AT.out.1, AT.out.2] at h; exact h⟩
  case round =>
    clear S0
    obtain ⟨i, j, dk, rfl, rfl, hi0, hj0, hia, hjb, hkx, hds, S1, H⟩ := hrel
    have e0 : (m : Int) - (i : Int) = ((m - i : Nat) : Int) := by omega
    by_cases hij : i = j
    · subst hij
      have q1 : ((i : Int) != (i : Int)) = false := by simp
      have C := Lib.hid (hds ▸ swapRange_any fv blk off cap (m - i) m i d0 dk w0 wr R (by omega) S1.out (by omega) (by omega) (by omega))
      go_wp2_with (go_at_call 295; (with_reducible refine (C.out).mono ?_); rintro e w2 ⟨rfl, d2, T2, S2⟩)
      go_end0
      exact ⟨rfl, d2, H.out d2 (Rot.last (by omega) (by omega) T2), S2⟩
    have q1 : ((i : Int) != (j : Int)) = true := by simp; omega
    by_cases hlt : j < i
    · have q2 : decide ((j : Int) < (i : Int)) = true := decide_eq_true (by omega)
      have q3 : (j : Int) < (i : Int) := by omega
      have C := Lib.hid (hds ▸ swapRange_any fv blk off cap (m - i) m j d0 dk w0 wr R (by omega) S1.out (by omega) (by omega) (by omega))
      go_wp2_with (go_at_call 295; (with_reducible refine (C.out).mono ?_); rintro e w2 ⟨rfl, d2, T2, S2⟩)
      go_roundg (i - j + j)
      case measure => omega
      case rel => exact ⟨i - j, j, d2, by go_num, rfl, by omega, hj0, by omega, hjb, Nat.le_refl _, T2.size.trans hds, Lib.hid S2, Lib.hid fun d' h => H.out d' (Rot.left_step hlt (by omega) (by omega) T2 h)⟩
    · have q2 : decide ((j : Int) < (i : Int)) = false := decide_eq_false (by omega)
      have q3 : ¬ (j : Int) < (i : Int) := by omega
      have e2 : (m : Int) + (j : Int) - (i : Int) = ((m + j - i : Nat) : Int) := by omega
      have C := Lib.hid (hds ▸ swapRange_any fv blk off cap (m - i) (m + j - i) i d0 dk w0 wr R (by omega) S1.out (by omega) (by omega) (by omega))
      go_wp2_with (go_at_call 295; (with_reducible refine (C.out).mono ?_); rintro e w2 ⟨rfl, d2, T2, S2⟩)
      go_roundg (i + (j - i))
      case measure => omega
      case rel => exact ⟨i, j - i, d2, rfl, by go_num, hi0, by omega, hia, by omega, Nat.le_refl _, T2.size.trans hds, Lib.hid S2, Lib.hid fun d' h => H.out d' (Rot.right_step (by omega) (by omega) (by omega) T2 h)⟩
end Go.Proofs.YtlndnpfjneeeeaaGreatDoor.Sy
/- SymW3, what a claim needs of it (prune.py). -/
namespace Go.Proofs.YtlndnpfjneeeeaaGreatDoor.Sy
open Go.Shelf Go.RowKit Go.Lib Go.Sort
set_option linter.unusedVariables false
theorem lt_left {α : Type} {lt : α → α → Bool} (hO : SWO lt) {x y z : α} (h1 : lt x z = true) (h2 : lt x y = false) : lt y z = true := by
  cases h : lt y z with
  | true => rfl
  | false => rw [hO.ntrans _ _ _ h2 h] at h1; cases h1
set_option maxHeartbeats 8000000 in
set_option maxRecDepth 1000000 in
theorem merge_up (g : Nat) (cb : Array Value) (cf : Fl → Fl → Int) (hO : SWO (ltOf cf)) (blk off cap : Nat) (d0 : Array Fl) (w0 : World)
    (eg : ∀ args w, (callFunc g args).run Tryz.prog w = .ok (.enter g args) w) (hcmp : CmpLays Tryz.prog g cb enc 2 cf blk off d0.size w0) (R : RowK enc 2 w0 blk off d0)
    (a m b : Nat) (d : Array Fl) (w : World) (hs : d0.size = d.size) (S : SWK enc 2 w0 blk off d w) (h1 : m = a + 1) (hmb : m < b) (hb : b ≤ d.size) (hsz : d.size ≤ 1000000) (hr : SortedIn (ltOf cf) m b d) :
    Calls Tryz.prog 189 #[.slice (some ⟨blk, off, none⟩) d.size cap, .int .i64 a, .int .i64 m, .int .i64 b, .func (.func g) #[] cb] w fun e w' => e = .returned (.tuple #[]) ∧ ∃ d', PermIn a b d d' ∧ SortedIn (ltOf cf) a b d' ∧ SWK enc 2 w0 blk off d' w' := by
  have S0 : Hid (SWK enc 2 w0 blk off d w) := S
  have HR := Lib.hid hr
  have HC := Lib.hid hcmp
  have mixed : Tryz.prog.follows Departure.mixedOrders = true := by kernel_rfl
  have ham : a < m := by omega
  have e1 : (m : Int) - (a : Int) = 1 := by omega
  have H1 := Lib.hid h1
  clear S hr hcmp h1
  go_enter Tryz.func189, Tryz.ntmps189
  go_wp2
  go_loopg [10, 11, 12] (b - a) (fun kx s10 s11 s12 wr => ∃ (i j : Nat), s10 = .int .i64 i ∧ s11 = .int .i64 j ∧ a + 1 ≤ i ∧ i ≤ j ∧ j ≤ b ∧ j - i ≤ kx ∧ Hid (SWK enc 2 w0 blk off d wr) ∧ Hid (∀ c, a + 1 ≤ c → c < i → ltOf cf d[c]! d[a]! = true) ∧ Hid (∀ c, j ≤ c → c < b → ltOf cf d[c]! d[a]! = false))
  case atStart => exact ⟨m, b, rfl, rfl, by have := H1.out; omega, by omega, Nat.le_refl _, by omega, S0, Lib.hid fun c h1 h2 => by have := H1.out; omega, Lib.hid fun c h1 h2 => by omega⟩
  case round =>
    clear S0
    obtain ⟨i, j, rfl, rfl, hai, hij, hjb, hkx, S1, LO, HI⟩ := hrel
    by_cases hlt : i < j
    · have q1 : (i : Int) < (j : Int) := by omega
      have hg : Hid (a + 1 ≤ (i + j) / 2 ∧ i ≤ (i + j) / 2 ∧ (i + j) / 2 < j) := Lib.hid ⟨by omega, by omega, by omega⟩
      obtain ⟨h, eh⟩ : ∃ h, h = (i + j) / 2 := ⟨_, rfl⟩
      have hh : ((i : Int) + (j : Int)) / 2 = (h : Int) := by omega
      have b0 : (0 : Int) ≤ (h : Int) := by omega
      have b1 : (h : Int) < (d.size : Int) := by omega
      have b2 : (a : Int) < (d.size : Int) := by omega
      have cA := fun n os => (cells_at (S1.out.grown n os) R hs.symm (i := h) (by omega)).1.1
      have cB := fun n os => (cells_at (S1.out.grown n os) R hs.symm (i := h) (by omega)).1.2
      have cC := fun n os => (cells_at (S1.out.grown n os) R hs.symm (i := a) (by omega)).1.1
      have cD := fun n os => (cells_at (S1.out.grown n os) R hs.symm (i := a) (by omega)).1.2
      have hcg := fun n os => S1.out.cmp HC.out hs.symm d[h]! d[a]! n os
      have GW := Lib.hid (S1.out.grown)
      have EH := Lib.hid eh
      clear eh
      by_cases hlv : cf d[h]! d[a]! < 0
      · have hd : decide (cf d[h]! d[a]! < 0) = true := decide_eq_true hlv
        go_wp2_with fail
        go_quiet_grown (first | (go_at_fn g; refine Calls.grown_of (hcg _ _)))
        go_wp2
        go_roundg (j - (h + 1))
        case measure => have := EH.out; omega
        case rel => exact ⟨h + 1, j, by go_num, rfl, by have := EH.out; omega, by have := EH.out; omega, hjb, Nat.le_refl _, Lib.hid (GW.out _ _), Lib.hid (fun c k1 k2 => lt_left hO (decide_eq_true hlv) (sle hO HR.out (by have := H1.out; omega) (by omega) (by have := EH.out; omega))), HI⟩
      · have hd : decide (cf d[h]! d[a]! < 0) = false := decide_eq_false hlv
        go_wp2_with fail
        go_quiet_grown (first | (go_at_fn g; refine Calls.grown_of (hcg _ _)))
        go_wp2
        go_roundg (h - i)
        case measure => have := EH.out; omega
        case rel => exact ⟨i, h, rfl, rfl, hai, by have := EH.out; omega, by have := EH.out; omega, Nat.le_refl _, Lib.hid (GW.out _ _), LO, Lib.hid (fun c k1 k2 => hO.ntrans _ _ _ (sle hO HR.out (by have := EH.out; have := H1.out; omega) k1 k2) (decide_eq_false (by omega)))⟩
    · obtain rfl : i = j := by omega
      have hai' : a + 1 ≤ i := by omega
      have FIN : Hid (∀ d' w', Rot a (a + 1) i d d' → SWK enc 2 w0 blk off d' w' → ∃ d', PermIn a b d d' ∧ SortedIn (ltOf cf) a b d' ∧ SWK enc 2 w0 blk off d' w') := Lib.hid fun d' w' h h2 => ⟨d', pmono h.perm (Nat.le_refl _) hjb hb, up_sorted hO (by have := HR.out; rw [H1.out] at this; exact this) hai' hjb h (fun c k1 k2 => LO.out c (by have := H1.out; omega) k2) HI.out, h2⟩
      clear LO HI HR HC
      have q1 : ¬ (i : Int) < (i : Int) := by omega
      have n1 : (i : Int) - 1 = ((i - 1 : Nat) : Int) := by omega
      go_wp2
      go_loopg [13] (i - a) (fun kx s13 wr => ∃ (k : Nat) (dk : Array Fl), s13 = .int .i64 k ∧ a ≤ k ∧ k + 1 ≤ i ∧ i - k ≤ kx ∧ dk.size = d.size ∧ Hid (SWK enc 2 w0 blk off dk wr) ∧ Hid (Rot a (a + 1) (k + 1) d dk))
      case atStart => exact ⟨a, d, rfl, Nat.le_refl _, hai', Nat.le_refl _, rfl, S1, Lib.hid Rot.same_right⟩
      case round =>
        clear S1
        obtain ⟨k, dk, rfl, hak, hki, hkx, hds, S1, RT⟩ := hrel
        by_cases hlt : k < i - 1
        · have q2 : (k : Int) < ((i - 1 : Nat) : Int) := by omega
          obtain ⟨y, hy⟩ : ∃ y, y = k + 1 := ⟨_, rfl⟩
          have S2 : Hid (∀ n, SWK enc 2 w0 blk off (swp dk k y) ((((((wr.drewN n).setCell ⟨blk, off + k * 2, none⟩ (.string dk[y]!.p)).setCell ⟨blk, off + k * 2 + 1, none⟩ (.string dk[y]!.d)).setCell ⟨blk, off + y * 2, none⟩ (.string dk[k]!.p)).setCell ⟨blk, off + y * 2 + 1, none⟩ (.string dk[k]!.d)))) := Lib.hid fun n => (S1.out.drewN n).swap R.hk R.hblk k y (by omega) (by omega)
          have T2 : Hid (Rot a (a + 1) (y + 1) d (swp dk k y)) := Lib.hid (by rw [hy]; exact RT.out.up hak (by omega))
          have hxy : k < y := by omega
          obtain ⟨⟨cx0, cx1⟩, fx0, fx1⟩ := cells_at S1.out R (by omega) (i := k) (by omega)
          obtain ⟨⟨cy0, cy1⟩, fy0, fy1⟩ := cells_at S1.out R (by omega) (i := y) (by omega)
          have e2 : (k : Int) + 1 = (y : Int) := by omega
          have g2 : IntKind.i64.wrap (y : Int) = (y : Int) := by rw [IntKind.wrap_i64]; omega
          have p1 : (0 : Int) ≤ (k : Int) := by omega
          have p2 : (0 : Int) ≤ (y : Int) := by omega
          have b1 : (k : Int) < (d.size : Int) := by omega
          have b2 : (y : Int) < (d.size : Int) := by omega
          have t2 : ((y : Int)).toNat = y := by omega
          have hyi : y + 1 ≤ i := by omega
          have hay : a ≤ y := by omega
          have hsw : (swp dk k y).size = d.size := by rw [size_swp]; exact hds
          generalize dk[k]! = vx at *
          generalize dk[y]! = vy at *
          clear S1 RT
          have o1 : off + k * 2 + 1 ≠ off + k * 2 := by omega
          have o2 : off + y * 2 ≠ off + k * 2 := by omega
          have o3 : off + y * 2 ≠ off + k * 2 + 1 := by omega
          have o4 : off + y * 2 + 1 ≠ off + k * 2 := by omega
          have o5 : off + y * 2 + 1 ≠ off + k * 2 + 1 := by omega
          have o6 : off + y * 2 + 1 ≠ off + y * 2 := by omega
          clear hy hxy
          go_wp2_with fail
          refine wp_region_ex (C := fun w' => ∃ n, w' = wr.drewN n) 15 (fun k => k == 4) (by kernel_rfl) (by kernel_rfl) (fun _ _ d _ _ h => by cases d <;> exact h) ⟨1, rfl⟩ ?_
          simp only [List.take_succ_cons, List.take_zero, List.drop_succ_cons, List.drop_zero]
          repeat (refine wpQ3_step rfl (fun K hK => ?_); go_simp; first | (refine hK _ ?_; clear hK K) | (apply Exists.intro; refine ⟨fun _ => ?_, hK _ ?_⟩; (first | (intro _; rfl)); clear hK K))
          refine wpQ3_ex (v := .int .i64 y) rfl (.inl ⟨rfl, fun _ => ?_⟩) ?_
          · go_simp
          repeat (refine wpQ3_step rfl (fun K hK => ?_); go_simp; first | (refine hK _ ?_; clear hK K) | (apply Exists.intro; refine ⟨fun _ => ?_, hK _ ?_⟩; (first | (intro _; rfl)); clear hK K))
          refine wpQ3_nil ?_
          rintro _ ⟨n0, rfl⟩
          have S3 := Lib.hid (S2.out n0)
          clear S2
          go_wp2_with fail
          go_roundg (i - y)
          case measure => omega
          case rel => exact ⟨y, swp dk k y, by first | rfl | go_num | (congr 1; omega), hay, hyi, Nat.le_refl _, hsw, S3, T2⟩
        · have q2 : ¬ (k : Int) < ((i - 1 : Nat) : Int) := by omega
          obtain rfl : i = k + 1 := by omega
          go_wp2
          refine bodyPost_ret (results_none rfl _ _ _) rfl ?_
          obtain ⟨d', h1, h2, h3⟩ := FIN.out dk wr RT.out S1.out
          exact ⟨rfl, d', h1, h2, h3⟩
end Go.Proofs.YtlndnpfjneeeeaaGreatDoor.Sy
/- SymW4, what a claim needs of it (prune.py). -/
namespace Go.Proofs.YtlndnpfjneeeeaaGreatDoor.Sy
open Go.Shelf Go.RowKit Go.Lib Go.Sort
set_option linter.unusedVariables false
theorem lt_right {α : Type} {lt : α → α → Bool} (hO : SWO lt) {x y z : α} (h1 : lt x y = true) (h2 : lt z y = false) : lt x z = true := by
  cases h : lt x z with
  | true => rfl
  | false => rw [hO.ntrans _ _ _ h h2] at h1; cases h1
set_option maxHeartbeats 8000000 in
set_option maxRecDepth 1000000 in
theorem merge_down (g : Nat) (cb : Array Value) (cf : Fl → Fl → Int) (hO : SWO (ltOf cf)) (blk off cap : Nat) (d0 : Array Fl) (w0 : World)
    (eg : ∀ args w, (callFunc g args).run Tryz.prog w = .ok (.enter g args) w) (hcmp : CmpLays Tryz.prog g cb enc 2 cf blk off d0.size w0) (R : RowK enc 2 w0 blk off d0)
    (a m b : Nat) (d : Array Fl) (w : World) (hs : d0.size = d.size) (S : SWK enc 2 w0 blk off d w) (h0 : a + 1 < m) (h1 : b = m + 1) (hb : b ≤ d.size) (hsz : d.size ≤ 1000000) (hl : SortedIn (ltOf cf) a m d) :
    Calls Tryz.prog 189 #[.slice (some ⟨blk, off, none⟩) d.size cap, .int .i64 a, .int .i64 m, .int .i64 b, .func (.func g) #[] cb] w fun e w' => e = .returned (.tuple #[]) ∧ ∃ d', PermIn a b d d' ∧ SortedIn (ltOf cf) a b d' ∧ SWK enc 2 w0 blk off d' w' := by
  have S0 : Hid (SWK enc 2 w0 blk off d w) := S
  have HL := Lib.hid hl
  have HC := Lib.hid hcmp
  have mixed : Tryz.prog.follows Departure.mixedOrders = true := by kernel_rfl
  have e0 : ((m : Int) - (a : Int) == 1) = false := by simp; omega
  have e00 : ¬ (m : Int) - (a : Int) = 1 := by omega
  have e1 : (b : Int) - (m : Int) = 1 := by omega
  have hmb : m < b := by omega
  have H1 := Lib.hid h1
  clear S hl hcmp h1
  go_enter Tryz.func189, Tryz.ntmps189
  go_wp2
  go_loopg [14, 15, 16] (b - a) (fun kx s10 s11 s12 wr => ∃ (i j : Nat), s10 = .int .i64 i ∧ s11 = .int .i64 j ∧ a ≤ i ∧ i ≤ j ∧ j ≤ m ∧ j - i ≤ kx ∧ Hid (SWK enc 2 w0 blk off d wr) ∧ Hid (∀ c, a ≤ c → c < i → ltOf cf d[m]! d[c]! = false) ∧ Hid (∀ c, j ≤ c → c < m → ltOf cf d[m]! d[c]! = true))
  case atStart => exact ⟨a, m, rfl, rfl, Nat.le_refl _, by omega, Nat.le_refl _, by omega, S0, Lib.hid fun c h1 h2 => by omega, Lib.hid fun c h1 h2 => by omega⟩
  case round =>
    clear S0
    obtain ⟨i, j, rfl, rfl, hai, hij, hjm, hkx, S1, LO, HI⟩ := hrel
    by_cases hlt : i < j
    · have q1 : (i : Int) < (j : Int) := by omega
      obtain ⟨h, eh⟩ : ∃ h, h = (i + j) / 2 := ⟨_, rfl⟩
      have hh : ((i : Int) + (j : Int)) / 2 = (h : Int) := by omega
      have b0 : (0 : Int) ≤ (h : Int) := by omega
      have b1 : (h : Int) < (d.size : Int) := by omega
      have b2 : (m : Int) < (d.size : Int) := by omega
      have cA := fun n os => (cells_at (S1.out.grown n os) R hs.symm (i := h) (by omega)).1.1
      have cB := fun n os => (cells_at (S1.out.grown n os) R hs.symm (i := h) (by omega)).1.2
      have cC := fun n os => (cells_at (S1.out.grown n os) R hs.symm (i := m) (by omega)).1.1
      have cD := fun n os => (cells_at (S1.out.grown n os) R hs.symm (i := m) (by omega)).1.2
      have hcg := fun n os => S1.out.cmp HC.out hs.symm d[m]! d[h]! n os
      have GW := Lib.hid (S1.out.grown)
      have EH := Lib.hid eh
      clear eh
      by_cases hlv : cf d[m]! d[h]! < 0
      · have hd : decide (cf d[m]! d[h]! < 0) = true := decide_eq_true hlv
        go_wp2_with fail
        go_quiet_grown (first | (go_at_fn g; refine Calls.grown_of (hcg _ _)))
        go_wp2
        go_roundg (h - i)
        case measure => have := EH.out; omega
        case rel => exact ⟨i, h, rfl, rfl, hai, by have := EH.out; omega, by have := EH.out; omega, Nat.le_refl _, Lib.hid (GW.out _ _), LO, Lib.hid (fun c k1 k2 => lt_right hO (decide_eq_true hlv) (sle hO HL.out (by have := EH.out; omega) k1 k2))⟩
      · have hd : decide (cf d[m]! d[h]! < 0) = false := decide_eq_false hlv
        have LV : Hid (ltOf cf d[m]! d[h]! = false) := Lib.hid (decide_eq_false hlv)
        go_wp2_with fail
        go_quiet_grown (first | (go_at_fn g; refine Calls.grown_of (hcg _ _)))
        go_wp2
        go_roundg (j - (h + 1))
        case measure => have := EH.out; omega
        case rel => exact ⟨h + 1, j, by go_num, rfl, by have := EH.out; omega, by have := EH.out; omega, hjm, Nat.le_refl _, Lib.hid (GW.out _ _), Lib.hid (fun c k1 k2 => hO.ntrans _ _ _ LV.out (sle hO HL.out (i := c) (j := h) k1 (by omega) (by have := EH.out; omega))), HI⟩
    · obtain rfl : i = j := by omega
      have FIN : Hid (∀ d' w', Rot i m (m + 1) d d' → SWK enc 2 w0 blk off d' w' → ∃ d', PermIn a b d d' ∧ SortedIn (ltOf cf) a b d' ∧ SWK enc 2 w0 blk off d' w') := Lib.hid fun d' w' h h2 => ⟨d', pmono h.perm hai (by have := H1.out; omega) hb, by rw [H1.out]; exact down_sorted hO HL.out hai hjm h LO.out HI.out, h2⟩
      clear LO HI HL HC
      have q1 : ¬ (i : Int) < (i : Int) := by omega
      have hm1 : m < d.size := by omega
      go_wp2
      go_loopg [17] (m - i) (fun kx s13 wr => ∃ (k : Nat) (dk : Array Fl), s13 = .int .i64 k ∧ i ≤ k ∧ k ≤ m ∧ k - i ≤ kx ∧ dk.size = d.size ∧ Hid (SWK enc 2 w0 blk off dk wr) ∧ Hid (Rot k m (m + 1) d dk))
      case atStart => exact ⟨m, d, rfl, hjm, Nat.le_refl _, Nat.le_refl _, rfl, S1, Lib.hid Rot.same_left⟩
      case round =>
        clear S1
        obtain ⟨k, dk, rfl, hik, hkm, hkx, hds, S1, RT⟩ := hrel
        by_cases hlt : i < k
        · have q2 : (i : Int) < (k : Int) := by omega
          obtain ⟨y, hy⟩ : ∃ y, y = k - 1 := ⟨_, rfl⟩
          have S2 : Hid (∀ n, SWK enc 2 w0 blk off (swp dk k y) ((((((wr.drewN n).setCell ⟨blk, off + k * 2, none⟩ (.string dk[y]!.p)).setCell ⟨blk, off + k * 2 + 1, none⟩ (.string dk[y]!.d)).setCell ⟨blk, off + y * 2, none⟩ (.string dk[k]!.p)).setCell ⟨blk, off + y * 2 + 1, none⟩ (.string dk[k]!.d)))) := Lib.hid fun n => (S1.out.drewN n).swap R.hk R.hblk k y (by omega) (by omega)
          have T2 : Hid (Rot y m (m + 1) d (swp dk k y)) := Lib.hid (by
            have h := RT.out
            obtain rfl : k = y + 1 := by omega
            exact h.down hkm hm1)
          have hxy : y < k := by omega
          obtain ⟨⟨cx0, cx1⟩, fx0, fx1⟩ := cells_at S1.out R (by omega) (i := k) (by omega)
          obtain ⟨⟨cy0, cy1⟩, fy0, fy1⟩ := cells_at S1.out R (by omega) (i := y) (by omega)
          have e2 : (k : Int) - 1 = (y : Int) := by omega
          have g2 : IntKind.i64.wrap (y : Int) = (y : Int) := by rw [IntKind.wrap_i64]; omega
          have p1 : (0 : Int) ≤ (k : Int) := by omega
          have p2 : (0 : Int) ≤ (y : Int) := by omega
          have b1 : (k : Int) < (d.size : Int) := by omega
          have b2 : (y : Int) < (d.size : Int) := by omega
          have t2 : ((y : Int)).toNat = y := by omega
          have hyi : i ≤ y := by omega
          have hay : y ≤ m := by omega
          have hsw : (swp dk k y).size = d.size := by rw [size_swp]; exact hds
          have hme : y - i < k - i := by omega
          generalize dk[k]! = vx at *
          generalize dk[y]! = vy at *
          clear S1 RT
          have o1 : off + k * 2 + 1 ≠ off + k * 2 := by omega
          have o2 : off + y * 2 ≠ off + k * 2 := by omega
          have o3 : off + y * 2 ≠ off + k * 2 + 1 := by omega
          have o4 : off + y * 2 + 1 ≠ off + k * 2 := by omega
          have o5 : off + y * 2 + 1 ≠ off + k * 2 + 1 := by omega
          have o6 : off + y * 2 + 1 ≠ off + y * 2 := by omega
          clear hy hxy
          go_wp2_with fail
          refine wp_region_ex (C := fun w' => ∃ n, w' = wr.drewN n) 15 (fun k => k == 4) (by kernel_rfl) (by kernel_rfl) (fun _ _ d _ _ h => by cases d <;> exact h) ⟨1, rfl⟩ ?_
          simp only [List.take_succ_cons, List.take_zero, List.drop_succ_cons, List.drop_zero]
          repeat (refine wpQ3_step rfl (fun K hK => ?_); go_simp; first | (refine hK _ ?_; clear hK K) | (apply Exists.intro; refine ⟨fun _ => ?_, hK _ ?_⟩; (first | (intro _; rfl)); clear hK K))
          refine wpQ3_ex (v := .int .i64 y) rfl (.inl ⟨rfl, fun _ => ?_⟩) ?_
          · go_simp
          repeat (refine wpQ3_step rfl (fun K hK => ?_); go_simp; first | (refine hK _ ?_; clear hK K) | (apply Exists.intro; refine ⟨fun _ => ?_, hK _ ?_⟩; (first | (intro _; rfl)); clear hK K))
          refine wpQ3_nil ?_
          rintro _ ⟨n0, rfl⟩
          have S3 := Lib.hid (S2.out n0)
          clear S2
          go_wp2_with fail
          go_roundg (y - i)
          case measure => omega
          case rel => exact ⟨y, swp dk k y, by first | rfl | go_num | (congr 1; omega), hyi, hay, Nat.le_refl _, hsw, S3, T2⟩
        · have q2 : ¬ (i : Int) < (k : Int) := by omega
          obtain rfl : k = i := by omega
          go_wp2
          refine bodyPost_ret (results_none rfl _ _ _) rfl ?_
          obtain ⟨d', h1, h2, h3⟩ := FIN.out dk wr RT.out S1.out
          exact ⟨rfl, d', h1, h2, h3⟩
end Go.Proofs.YtlndnpfjneeeeaaGreatDoor.Sy
