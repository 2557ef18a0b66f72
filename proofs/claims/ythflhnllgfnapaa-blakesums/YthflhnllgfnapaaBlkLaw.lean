/- The chapter's examples hold: trestlelaw02.awake. -/
import Derived.Test.YthflhnllgfnapaaBlkWords
import Derived.Test.YthflhnllgfnapaaBlkSum
import Derived.Test.YthflhnllgfnapaaKm
namespace Go.Proofs.Ythflhnllgfnapaa
open Go.RowKit Blk
set_option linter.unusedVariables false

theorem abc_sum : (⟨(sum [97, 98, 99]).toArray⟩ : ByteArray) = ⟨#[0x50, 0x8c, 0x5e, 0x8c, 0x32, 0x7c, 0x14, 0xe2, 0xe1, 0xa7, 0x2b, 0xa3, 0x4e, 0xeb, 0x45, 0x2f, 0x37, 0x45, 0x8b, 0x20, 0x9e, 0xd6, 0x3a, 0x29, 0x4d, 0x99, 0x9b, 0x4c, 0x86, 0x67, 0x59, 0x82]⟩ := by kernel_rfl

def abcDigest : ByteArray := ⟨#[0x50, 0x8c, 0x5e, 0x8c, 0x32, 0x7c, 0x14, 0xe2, 0xe1, 0xa7, 0x2b, 0xa3, 0x4e, 0xeb, 0x45, 0x2f, 0x37, 0x45, 0x8b, 0x20, 0x9e, 0xd6, 0x3a, 0x29, 0x4d, 0x99, 0x9b, 0x4c, 0x86, 0x67, 0x59, 0x82]⟩
theorem sum_abc (w : World) : Calls Try.prog 7 #[.string ⟨#[97, 98, 99]⟩] w fun e w' => e = .returned (.string abcDigest) ∧ Below w.heap.size w w' :=
  (sum_any ⟨#[97, 98, 99]⟩ (by decide) w).mono fun e w' ⟨he, hb⟩ => ⟨by rw [he, show (⟨#[97, 98, 99]⟩ : ByteArray).data.toList = [97, 98, 99] from rfl, abc_sum]; rfl, hb⟩
theorem aabp_words : (⟨(wordsOf [0, 31]).toArray⟩ : ByteArray) = ⟨#[97, 97, 98, 112]⟩ := by kernel_rfl
theorem words_aabp (w : World) : Calls Try.prog 10 #[.string ⟨#[0, 31]⟩] w fun e w' => e = .returned (.string ⟨#[97, 97, 98, 112]⟩) ∧ Below w.heap.size w w' :=
  (words_any ⟨#[0, 31]⟩ (by decide) w).mono fun e w' ⟨he, hb⟩ => ⟨by rw [he, show (⟨#[0, 31]⟩ : ByteArray).data.toList = [0, 31] from rfl, aabp_words], hb⟩

theorem abc_list : abcDigest.toList = [80, 140, 94, 140, 50, 124, 20, 226, 225, 167, 43, 163, 78, 235, 69, 47, 55, 69, 139, 32, 158, 214, 58, 41, 77, 153, 155, 76, 134, 103, 89, 130] := by rw [Lib.toList_data]; rfl
theorem awake_any (w : World) : Calls Try.prog 9 #[] w fun e w' => e = .returned (.bool true) ∧ Below w.heap.size w w' := by
  have hd := abc_list
  go_enter Try.func9, Try.ntmps9
  go_wp2_with (first | (go_at_call 7; ((with_reducible refine (sum_abc _).mono ?_); rintro e w1 ⟨rfl, hb1⟩)) | (go_at_call 10; ((with_reducible refine (words_aabp _).mono ?_); rintro e w2 ⟨rfl, hb2⟩)))
  go_ret
  exact ⟨rfl, hb1.trans (hb2.mono hb1.size)⟩

/-! ### BlakeHalves -/
theorem words_one (C : UInt8) (w : World) : Calls Try.prog 10 #[.string ⟨#[C]⟩] w fun e w' => e = .returned (.string ⟨#[hiW C, loW C]⟩) ∧ Below w.heap.size w w' :=
  (words_any ⟨#[C]⟩ (by show 1 ≤ 1000000; decide) w).mono fun e w' ⟨he, hb⟩ => ⟨he, hb⟩
theorem conv_one (C : UInt8) (w : World) : (convert 26 9 (.slice (some ⟨w.heap.size, 0, none⟩) 1 1)).run Try.prog (w.alloc (.cells #[.int .u8 C.toNat] 5)) = .ok (.string ⟨#[C]⟩) (w.alloc (.cells #[.int .u8 C.toNat] 5)) :=
  conv_own (B := 0) (n := 1) (l := [C]) Try.underlying26 Try.underlying5 Try.underlying9
    ⟨rfl, .inr ⟨w.heap.size, 1, #[.int .u8 C.toNat], rfl, Nat.zero_le _, heap_alloc_new w _, Nat.le_refl _, by unfold maxLen; decide, rfl, rfl⟩⟩
set_option maxHeartbeats 1000000 in
theorem halves_walk (C : UInt8) (w : World) :
    Calls Try.prog 6 #[.int .u8 C.toNat] w fun e w' => e = .returned (.bool true) ∧ Below w.heap.size w w' := by
  have hC := UInt8.toNat_lt C
  have hcv := conv_one C w
  have wo := words_one C
  have h1 := hiW_nat C
  have h2 := loW_nat C
  generalize hiW C = a at *
  generalize loW C = b at *
  obtain ⟨S, eS⟩ : ∃ S : ByteArray, S = ⟨#[a, b]⟩ := ⟨_, rfl⟩
  have sz : S.size = 2 := by rw [eS]; rfl
  have s0 : (S[0]'(by omega)).toNat = a.toNat := by subst eS; rfl
  have s1 : (S[1]'(by omega)).toNat = b.toNat := by subst eS; rfl
  rw [← eS] at wo
  rw [← s0] at h1
  rw [← s1] at h2
  clear s0 s1 eS
  have d1 : decide (((S[0]'(by omega)).toNat : Int) < 97) = false := decide_eq_false (by omega)
  have d2 : decide ((112 : Int) < ((S[0]'(by omega)).toNat : Int)) = false := decide_eq_false (by omega)
  have d3 : decide (((S[1]'(by omega)).toNat : Int) < 97) = false := decide_eq_false (by omega)
  have d4 : decide ((112 : Int) < ((S[1]'(by omega)).toNat : Int)) = false := decide_eq_false (by omega)
  obtain ⟨p, ep⟩ : ∃ p, p = C.toNat / 16 := ⟨_, rfl⟩
  obtain ⟨q, eq⟩ : ∃ q, q = C.toNat % 16 := ⟨_, rfl⟩
  obtain ⟨P, eP⟩ : ∃ P, P = 16 * p := ⟨_, rfl⟩
  have r1 : IntKind.u8.wrap (((S[0]'(by omega)).toNat : Int) - 97) = (p : Int) := by rw [IntKind.wrap_u8']; omega
  have r2 : IntKind.i64.wrap (p : Int) = (p : Int) := IntWalk.i64_in _ (by omega)
  have r3 : IntKind.i64.wrap (16 * (p : Int)) = (P : Int) := by rw [IntWalk.i64_in _ (by omega)]; omega
  have r4 : IntKind.u8.wrap (((S[1]'(by omega)).toNat : Int) - 97) = (q : Int) := by rw [IntKind.wrap_u8']; omega
  have r5 : IntKind.i64.wrap (q : Int) = (q : Int) := IntWalk.i64_in _ (by omega)
  have r6 : IntKind.i64.wrap ((P : Int) + (q : Int)) = (C.toNat : Int) := by rw [IntWalk.i64_in _ (by omega)]; omega
  have r7 : IntKind.i64.wrap (C.toNat : Int) = (C.toNat : Int) := IntWalk.i64_in _ (by omega)
  clear ep eq eP
  have H1 := Lib.hid h1
  have H2 := Lib.hid h2
  have WO := Lib.hid wo
  clear h1 h2 wo
  go_enter Try.func6, Try.ntmps6
  go_wp2_with (go_at_call 10; ((with_reducible refine (WO.out _).mono ?_); rintro e w1 ⟨rfl, hb1⟩))
  have hc0 : Below w.heap.size w w1.drew := ((((Below.refl _ _).alloc (Nat.le_refl _) _).trans (hb1.mono (by simp)))).drew
  have HB1 := Lib.hid hb1
  refine wp_region_cls (C := fun w' => Below w.heap.size w w') (by kernel_rfl) (by kernel_rfl) hc0 ?_
  repeat (quiet_step (first | (intro _; rfl) | (intro hss; go_at_call 9; ((with_reducible refine (awake_any _).mono ?_); rintro e w' ⟨rfl, hb'⟩; exact ⟨rfl, hss.trans (hb'.mono hss.size)⟩))))
  refine wpQuiet_nil ?_
  intro w2 hb2
  go_wp2
  go_ret
  exact ⟨rfl, hb2⟩
theorem halves_int (c : Int) (hc : (Lit.int .u8 c).wf = true) (w : World) :
    Calls Try.prog 6 #[.int .u8 c] w fun e w' => e = .returned (.bool true) ∧ Below w.heap.size w w' := by
  have hx : 0 ≤ c ∧ c ≤ 255 := by simpa [Lit.wf, IntKind.min, IntKind.max, IntKind.signed, IntKind.bits] using hc
  have hn : ((UInt8.ofNat c.toNat).toNat : Int) = c := by rw [UInt8.toNat_ofNat_of_lt' (by show c.toNat < 256; omega)]; omega
  have := halves_walk (UInt8.ofNat c.toNat) w
  rwa [hn] at this
end Go.Proofs.Ythflhnllgfnapaa
