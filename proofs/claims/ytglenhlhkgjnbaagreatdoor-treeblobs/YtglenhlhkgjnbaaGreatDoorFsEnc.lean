/- The contracts of tree.Encode and of the reference's Encode. -/
import Derived.Test.YtglenhlhkgjnbaaGreatDoorFsRight
import Derived.Test.YtglenhlhkgjnbaaGreatDoorFsBytes
namespace Go.Proofs.YtglenhlhkgjnbaaGreatDoor.Fs
open Go.RowKit
set_option linter.unusedVariables false
set_option maxRecDepth 100000
def EncSays (l : List En) (w : World) (e : Ending) (w' : World) : Prop := e = .returned (.tuple #[.string (bs (encode l).1), .int .i64 (encode l).2]) ∧ Below w.heap.size w w'
theorem encode_yes {l : List En} (h : rightB l = true) : encode l = (bytesE l, 0) := by unfold encode; rw [if_pos h]
theorem encode_no {l : List En} (h : rightB l = false) : encode l = ([], 11) := by unfold encode; rw [if_neg (by simp [h])]
theorem parts_le : ∀ {l : List En} {x : En}, x ∈ l → x.n.length ≤ (bytesE l).length ∧ x.g.length ≤ (bytesE l).length := by
  intro l
  induction l with
  | nil => intro x h; cases h
  | cons a l ih =>
    intro x h
    rw [bytesE_eq, List.flatMap_cons, List.length_append]
    have ih' := @ih x
    rw [bytesE_eq] at ih'
    rcases List.mem_cons.1 h with rfl | h
    · have h1 := ent_le x
      have e : ([x.n, kind x, x.g].flatMap Pk.text).length = (Pk.text x.n).length + (Pk.text (kind x)).length + (Pk.text x.g).length := by simp; omega
      have t1 : x.n.length ≤ (Pk.text x.n).length := by unfold Pk.text; simp; omega
      have t2 : x.g.length ≤ (Pk.text x.g).length := by unfold Pk.text; simp; omega
      omega
    · have := ih' h
      omega
theorem pencode_any (A : Option Addr) (l : List En) (c : Nat) (w : World) (hE : Env w) (hr : Ens w A l) (hl : (bytesE l).length ≤ 100000000) :
    Calls Tryz.prog 21 #[.slice A l.length c] w (EncSays l w) := by
  have RI := Lib.hid (pright_any A l c w hE hr (fun x hx => by have := parts_le hx; omega) (by have := bytes_count l; omega))
  have BY : Hid (∀ W, Below w.heap.size w W → Calls Tryz.prog 51 #[.slice A l.length c] W fun e w' => e = .returned (.string (bs (bytesE l))) ∧ Below W.heap.size W w') := Lib.hid fun W hW => pbytes_any A l c W (hE.below hW).2 ((hr.below hW).more hW.size) hl
  clear hr hE
  unfold EncSays
  cases h : rightB l with
  | true =>
    rw [h] at RI
    rw [encode_yes h]
    clear h
    generalize bytesE l = t at *
    go_enter Tryz.func21, Tryz.ntmps21
    go_wp2_with (first
      | (go_at_call 52; (with_reducible refine (RI.out).mono ?_); rintro e w1 ⟨rfl, hb1⟩; have B1 := Lib.hid (BY.out _ hb1))
      | (go_at_call 51; (with_reducible refine (B1.out).mono ?_); rintro e w2 ⟨rfl, hb2⟩))
    go_ret2
    exact ⟨rfl, hb1.trans (hb2.mono hb1.size)⟩
  | false =>
    rw [h] at RI
    rw [encode_no h]
    clear h
    go_enter Tryz.func21, Tryz.ntmps21
    go_wp2_with (go_at_call 52; (with_reducible refine (RI.out).mono ?_); rintro e w1 ⟨rfl, hb1⟩)
    go_ret2
    exact ⟨rfl, hb1⟩
theorem rencode_any (A : Option Addr) (l : List En) (c : Nat) (w : World) (hr : Ens w A l) (hl : (bytesE l).length ≤ 100000000) :
    Calls Tryz.prog 22 #[.slice A l.length c] w (EncSays l w) := by
  have RI := Lib.hid (rright_any A l c w hr (fun x hx => by have := parts_le hx; omega) (by have := bytes_count l; omega))
  have BY : Hid (∀ W, Below w.heap.size w W → Calls Tryz.prog 54 #[.slice A l.length c] W fun e w' => e = .returned (.string (bs (bytesE l))) ∧ Below W.heap.size W w') := Lib.hid fun W hW => rbytes_any A l c W ((hr.below hW).more hW.size) hl
  clear hr
  unfold EncSays
  cases h : rightB l with
  | true =>
    rw [h] at RI
    rw [encode_yes h]
    clear h
    generalize bytesE l = t at *
    go_enter Tryz.func22, Tryz.ntmps22
    go_wp2_with (first
      | (go_at_call 53; (with_reducible refine (RI.out).mono ?_); rintro e w1 ⟨rfl, hb1⟩; have B1 := Lib.hid (BY.out _ hb1))
      | (go_at_call 54; (with_reducible refine (B1.out).mono ?_); rintro e w2 ⟨rfl, hb2⟩))
    go_ret2
    exact ⟨rfl, hb1.trans (hb2.mono hb1.size)⟩
  | false =>
    rw [h] at RI
    rw [encode_no h]
    clear h
    go_enter Tryz.func22, Tryz.ntmps22
    go_wp2_with (go_at_call 53; (with_reducible refine (RI.out).mono ?_); rintro e w1 ⟨rfl, hb1⟩)
    go_ret2
    exact ⟨rfl, hb1⟩
end Go.Proofs.YtglenhlhkgjnbaaGreatDoor.Fs
