/- The law CacheKeeps, walked. -/
import Derived.Test.YtcifjhhofefpjaaKeepMem
import Derived.Test.YtcifjhhofefpjaaCaPlaysLaw
import Derived.Test.YtcifjhhofefpjaaKb
import Derived.Deep.DeepCutAuto
import Derived.Deep.CutBlock
namespace Go.Proofs.Ytcifjhhofefpjaa.Ca
open Go.RowKit Go.Maps Go.Shelf
set_option linter.unusedVariables false
set_option maxRecDepth 100000
theorem u8_wrap (n : Int) : ∃ a : Nat, a < 256 ∧ IntKind.u8.wrap n = (a : Int) := by
  refine ⟨(n % 256).toNat, by omega, ?_⟩
  rw [IntKind.wrap_u8']
  omega
theorem conv2 (a b : Nat) (ha : a < 256) (hb : b < 256) (w : World) : ∃ v : ByteArray, v.size ≤ 2 ∧ (convert 28 9 (.slice (some ⟨w.heap.size, 0, none⟩) 2 2)).run Try.prog (w.alloc (.cells #[.int .u8 (a : Int), .int .u8 (b : Int)] 5)) = .ok (.string v) (w.alloc (.cells #[.int .u8 (a : Int), .int .u8 (b : Int)] 5)) := by
  have ea : ((UInt8.ofNat a).toNat : Int) = a := by rw [UInt8.toNat_ofNat_of_lt' (by show a < 256; omega)]
  have eb : ((UInt8.ofNat b).toNat : Int) = b := by rw [UInt8.toNat_ofNat_of_lt' (by show b < 256; omega)]
  refine ⟨⟨#[UInt8.ofNat a, UInt8.ofNat b]⟩, Nat.le_refl _, ?_⟩
  refine conv_own (B := 0) (n := 2) (l := [UInt8.ofNat a, UInt8.ofNat b]) Try.underlying28 Try.underlying5 Try.underlying9
    ⟨rfl, .inr ⟨w.heap.size, 2, #[.int .u8 (a : Int), .int .u8 (b : Int)], rfl, Nat.zero_le _, heap_alloc_new w _, Nat.le_refl _, by unfold maxLen; decide, rfl, ?_⟩⟩
  show [Value.int .u8 (a : Int), Value.int .u8 (b : Int)] = [Value.int .u8 ((UInt8.ofNat a).toNat : Int), Value.int .u8 ((UInt8.ofNat b).toNat : Int)]
  rw [ea, eb]
theorem keeps_bad (most : Int) (V : Value) (w : World) (h : most < 1 ∨ 1000 < most) : Calls Try.prog 5 #[.int .i64 most, V] w fun e w' => e = .returned (.bool true) ∧ Below w.heap.size w w' := by
  have N0 := Lib.hid (S.new_bad most h w)
  have AW := Lib.hid (Cr.awake_low (Below.refl w.heap.size w) (Nat.le_refl _))
  clear h
  go_enter Try.func5, Try.ntmps5
  go_wp2_with (first | (go_at_call 23; ((with_reducible refine (N0.out).mono ?_); rintro e w' ⟨rfl, rfl⟩)) | (go_at_call 7; ((with_reducible refine (AW.out).mono ?_); rintro e w' ⟨rfl, hb⟩)))
  go_ret
  exact ⟨rfl, hb⟩
theorem put_lenB {most : Nat} {L : List (Th ByteArray)} {k : ByteArray} {v : ByteArray} (h : L.length ≤ most) (h1 : 1 ≤ most) : (put most L k v).1.length ≤ most := by
  unfold put
  split
  · rename_i a x b hat
    have := (part_some hat).1
    rw [this] at h
    (simp at h ⊢; try omega)
  · split
    · (simp; try omega)
    · split
      · rename_i a x b hfr
        have := (part_some hfr).1
        rw [this] at h
        simp at h ⊢; omega
      · exact h
theorem pin_lenB {L : List (Th ByteArray)} {k : ByteArray} : (pin L k).1.length = L.length := by
  unfold pin
  split
  · rename_i a x b hat
    have := (part_some hat).1
    rw [this]
    simp
  · rfl
theorem unpin_lenB {L : List (Th ByteArray)} {k : ByteArray} : (unpin L k).1.length = L.length := by
  unfold unpin
  split
  · rename_i a x b hat
    have := (part_some hat).1
    split
    · rfl
    · rw [this]; simp
  · rfl
theorem drop_lenB {L : List (Th ByteArray)} {k : ByteArray} : (drop L k).1.length ≤ L.length := by
  unfold drop
  split
  · rename_i a x b hat
    have := (part_some hat).1
    split
    · rw [this]; (simp; try omega)
    · exact Nat.le_refl _
  · exact Nat.le_refl _
theorem get_lenB {L : List (Th ByteArray)} {k : ByteArray} : (Ca.get L k).1.length = L.length := by
  unfold Ca.get
  split
  · rename_i a x b hat
    have := (part_some hat).1
    rw [this]
    (simp; try omega)
  · rfl
open Cr (Opn OpsAt)
set_option maxHeartbeats 2000000 in
theorem keeps_good (most : Nat) (A : Option Addr) (l : List Opn) (cap : Nat) (w : World) (h1 : 1 ≤ most) (h2 : most ≤ 1000) (hl : l.length ≤ maxLen) (hks : ∀ x ∈ l, x.k.size ≤ maxLen) (hO : OpsAt w w.heap.size A l) :
    Calls Try.prog 5 #[.int .i64 most, .slice A l.length cap] w fun e w' => e = .returned (.bool true) ∧ Below w.heap.size w w' := by
  have N0 := Lib.hid (S.new_ok most h1 h2 w)
  have hmm := @run_makeMap Try.prog
  unfold maxLen at hl
  go_enter Try.func5, Try.ntmps5
  go_wp2_with (fail)
  refine (N0.out).mono ?_
  rintro e w1 ⟨rfl, i1, b1⟩
  have hm1 : w.heap.size < w1.heap.size := by obtain ⟨_, _, _, h, _⟩ := i1; exact h.map.lt
  have bM : Below w1.heap.size w1 ((w1.alloc (.map #[] 0)).alloc (.map #[] 0)) := ((Below.refl _ _).alloc (Nat.le_refl _) _).alloc (by simp) _
  have KM1 : Hid (KM w ((w1.alloc (.map #[] 0)).alloc (.map #[] 0)) w.heap.size (w.heap.size + 1) w.heap.size most 0 w1.heap.size (w1.heap.size + 1) [] (fun _ => 0) (fun _ => ⟨#[]⟩)) := Lib.hid
    ⟨i1.below bM, (Counts.made w1).move (Below.heap_alloc _ _ _ (by simp)), by have := Texts.made (w1.alloc (.map #[] 0)); rwa [World.size_alloc] at this, by omega, by omega, by omega, by omega, by omega, b1.trans (bM.mono (by omega))⟩
  clear i1 bM
  go_wp2_with (fail)
  go_loopw [9] (fun i wr => ∃ (k : Nat) (L : List ThB) (pm : ByteArray → Nat) (la : ByteArray → ByteArray), i = .int .i64 k ∧ k ≤ l.length ∧ k ≤ 200 ∧ KM w wr w.heap.size (w.heap.size + 1) w.heap.size most (4 * k) w1.heap.size (w1.heap.size + 1) L pm la ∧ Keep L pm la ∧ L.length ≤ most) (fun i _ => l.length - (intOf i).toNat)
  case atStart => exact ⟨0, [], _, _, rfl, Nat.zero_le _, Nat.zero_le _, KM1.out, Keep.nil, Nat.zero_le _⟩
  case round =>
    obtain ⟨k, L, pm, la, rfl, hk, hk2, hK, hP, hL⟩ := hrel
    rename World => wr
    have hb := hK.low
    have hBs := hb.size
    by_cases hlt : k < l.length
    · by_cases hlt2 : k < 200
      · obtain ⟨ad, e, hB, hc⟩ := (hO.below hb) (by omega)
        subst e
        obtain ⟨g0, g1, g2⟩ := hc k hlt
        have hkI : (k : Int) < (l.length : Int) := by omega
        have hk0 : (0 : Int) ≤ (k : Int) := by omega
        have hk200 : (k : Int) < 200 := by omega
        have hks' := hks _ (List.getElem_mem hlt)
        clear hc
        generalize l[k] = x at *
        obtain ⟨a, key, n⟩ := x
        have g0 : wr.cell? (ad.add (k * 3)) = some (.int .i64 a) := g0
        have g1 : wr.cell? ⟨(ad.add (k * 3)).block, (ad.add (k * 3)).off + 1, none⟩ = some (.string key) := g1
        have g2 : wr.cell? ⟨(ad.add (k * 3)).block, (ad.add (k * 3)).off + 2, none⟩ = some (.int .i64 n) := g2
        have hks2 : key.size ≤ maxLen := hks'
        clear hks'
        obtain ⟨W0, eW0⟩ : ∃ W0, W0 = wr.alloc (.cells #[.int .i64 a, .string key, .int .i64 n] 37) := ⟨_, rfl⟩
        have hbW : Below wr.heap.size wr W0 := by rw [eW0]; exact (Below.refl _ _).alloc (Nat.le_refl _) _
        have hxW : W0.heap[wr.heap.size]? = some (.cells #[.int .i64 a, .string key, .int .i64 n] 37 (0, 0)) := by rw [eW0]; exact heap_alloc_new wr _
        have hxs := heap_lt hxW
        obtain ⟨n8, hn8, wn⟩ := u8_wrap n
        obtain ⟨k8, hk8, wk⟩ := u8_wrap (k : Int)
        obtain ⟨v, hv2, hcv⟩ := conv2 n8 k8 hn8 hk8 W0
        obtain ⟨W1, eW1⟩ : ∃ W1, W1 = W0.alloc (.cells #[.int .u8 (n8 : Int), .int .u8 (k8 : Int)] 5) := ⟨_, rfl⟩
        have hbW1 : Below W0.heap.size W0 W1 := by rw [eW1]; exact (Below.refl _ _).alloc (Nat.le_refl _) _
        have hx1 : W1.heap[wr.heap.size]? = some (.cells #[.int .i64 a, .string key, .int .i64 n] 37 (0, 0)) := (hbW1.block _ hxs).trans hxW
        have hK1 := Lib.hid ((hK.below hbW).below hbW1)
        have HX1 := Lib.hid hx1
        have HP := Lib.hid hP
        have HL := Lib.hid hL
        have EW0 := Lib.hid eW0
        have EW1 := Lib.hid eW1
        rw [eW0, World.size_alloc] at hcv
        clear hK hP hL hb hbW hxW hbW1 hx1 eW0 eW1 hxs hB
        go_upto_block 2 with (fail)
        rw [← EW0.out, ← EW1.out]
        go_cut [] from 37 to 184 (fun wx => ∃ L' pm' la', KM w wx w.heap.size (w.heap.size + 1) w.heap.size most (4 * k + 2) w1.heap.size (w1.heap.size + 1) L' pm' la' ∧ Keep L' pm' la' ∧ L'.length ≤ most ∧ wx.heap[wr.heap.size]? = some (.cells #[.int .i64 a, .string key, .int .i64 n] 37 (0, 0)))
        case first =>
          have hx1 := HX1.out
          have x0 : W1.cell? ⟨wr.heap.size, 0, none⟩ = some (.int .i64 a) := (cell_at hx1 0).trans rfl
          have x1 : W1.cell? ⟨wr.heap.size, 1, none⟩ = some (.string key) := (cell_at hx1 1).trans rfl
          have x2 : W1.cell? ⟨wr.heap.size, 2, none⟩ = some (.int .i64 n) := (cell_at hx1 2).trans rfl
          clear hx1
          by_cases q0 : a = 0
          · subst q0
            have e0 : ((0 : Int) == 0) = true := rfl
            have P1 := Lib.hid (S.put_any hK1.out.is hks2 (by omega) h1 h2 HL.out v)
            go_wp2_with (fail)
            refine (P1.out).mono ?_
            intro e w3 h3
            have km3 := hK1.out.call h3
            have hxw3 := opblk_frC (by decide) (by decide) HX1.out (sis_map hK1.out.is) h3.2.2.2
            have he3 : e = _ := h3.1
            subst he3
            have c1w3 : w3.cell? ⟨wr.heap.size, 1, none⟩ = some (.string key) := (cell_at hxw3 1).trans rfl
            have HXW3 := Lib.hid hxw3
            have KM3 := Lib.hid km3
            clear hxw3 km3 h3 P1
            rcases keep_put (most := most) (k := key) (v := v) HP.out with ⟨hr, hkp⟩ | ⟨hr, hsame⟩
            · obtain ⟨w4, hmu, htx, hg⟩ := KM3.out.txt.put (by omega) hks2 (v := v) (by unfold maxLen; omega)
              have KM4 := Lib.hid (KM3.out.putTxt htx hg)
              have HX4 := Lib.hid (opblk_map HXW3.out KM3.out.txt.obj hg)
              have HKP := Lib.hid hkp
              have HLE := Lib.hid (show (put most L key v).1.length ≤ most from put_lenB HL.out h1)
              rw [hr]
              clear hr hkp htx hg
              go_wp2_with (fail)
              go_meet
              case rel => exact ⟨_, _, _, KM4.out, HKP.out, HLE.out, HX4.out⟩
            · have KM4 := KM3.out
              rw [hsame] at KM4
              have KM5 := Lib.hid (KM4.later (Nat.le_succ _))
              rw [hr]
              clear hr hsame KM4
              go_wp2_with (fail)
              go_meet
              case rel => exact ⟨_, _, _, KM5.out, HP.out, HL.out, HXW3.out⟩
          · have e0 : (a == (0 : Int)) = false := beq_eq_false_iff_ne.2 q0
            by_cases q2 : a = 2
            · subst q2
              have e0 : ((2 : Int) == 0) = false := rfl
              have e2 : ((2 : Int) == 2) = true := rfl
              have P1 := Lib.hid (S.pin_any hK1.out.is hks2 (by omega))
              go_wp2_with (fail)
              refine (P1.out).mono ?_
              intro e w3 h3
              have km3 := hK1.out.call h3
              have hxw3 := opblk_frC (by decide) (by decide) HX1.out (sis_map hK1.out.is) h3.2.2.2
              have he3 : e = _ := h3.1
              subst he3
              have c1w3 : w3.cell? ⟨wr.heap.size, 1, none⟩ = some (.string key) := (cell_at hxw3 1).trans rfl
              have HXW3 := Lib.hid hxw3
              have KM3 := Lib.hid km3
              clear hxw3 km3 h3 P1
              rcases keep_pin (k := key) HP.out with ⟨hr, hkp⟩ | ⟨hr, hsame⟩
              · have hpm : pm key ≤ 4 * k + 1 := by obtain ⟨_, _, _, _, _, h⟩ := KM3.out.cnt; exact h key
                have hlk := KM3.out.cnt.look hks2
                obtain ⟨w4, hmu, hct, hg⟩ := KM3.out.cnt.put (by omega) hks2 (pm key + 1) (by omega)
                have ec : (((pm key + 1 : Nat)) : Int) = (pm key : Int) + 1 := by omega
                rw [ec] at hmu
                have hpI : (pm key : Int) ≤ 1000000 := by omega
                have KM4 := Lib.hid (KM3.out.putCnt hct hg)
                have HX4 := Lib.hid (opblk_map HXW3.out KM3.out.cnt.obj hg)
                have HKP := Lib.hid hkp
                have HLE := Lib.hid (show (pin L key).1.length ≤ most by rw [pin_lenB]; exact HL.out)
                rw [hr]
                clear hr hkp hct hg ec
                go_wp2_with (fail)
                go_meet
                case rel => exact ⟨_, _, _, KM4.out, HKP.out, HLE.out, HX4.out⟩
              · have KM4 := KM3.out
                rw [hsame] at KM4
                have KM5 := Lib.hid (KM4.later (Nat.le_succ _))
                rw [hr]
                clear hr hsame KM4
                go_wp2_with (fail)
                go_meet
                case rel => exact ⟨_, _, _, KM5.out, HP.out, HL.out, HXW3.out⟩
            · have e2 : (a == (2 : Int)) = false := beq_eq_false_iff_ne.2 q2
              by_cases q3 : a = 3
              · subst q3
                have e0 : ((3 : Int) == 0) = false := rfl
                have e2 : ((3 : Int) == 2) = false := rfl
                have e3 : ((3 : Int) == 3) = true := rfl
                have P1 := Lib.hid (S.unpin_any hK1.out.is hks2 (by omega))
                go_wp2_with (fail)
                refine (P1.out).mono ?_
                intro e w3 h3
                have km3 := hK1.out.call h3
                have hxw3 := opblk_frC (by decide) (by decide) HX1.out (sis_map hK1.out.is) h3.2.2.2
                have he3 : e = _ := h3.1
                subst he3
                have c1w3 : w3.cell? ⟨wr.heap.size, 1, none⟩ = some (.string key) := (cell_at hxw3 1).trans rfl
                have HXW3 := Lib.hid hxw3
                have KM3 := Lib.hid km3
                clear hxw3 km3 h3 P1
                rcases keep_unpin (k := key) HP.out with ⟨hr, hp0, hkp⟩ | ⟨hr, hsame⟩
                · have hpm : pm key ≤ 4 * k + 1 := by obtain ⟨_, _, _, _, _, h⟩ := KM3.out.cnt; exact h key
                  have hlk := KM3.out.cnt.look hks2
                  obtain ⟨w4, hmu, hct, hg⟩ := KM3.out.cnt.put (by omega) hks2 (pm key - 1) (by omega)
                  have ec : (((pm key - 1 : Nat)) : Int) = (pm key : Int) - 1 := by omega
                  rw [ec] at hmu
                  have hb0 : ((pm key : Int) == 0) = false := beq_eq_false_iff_ne.2 (by omega)
                  have hpI : (pm key : Int) ≤ 1000000 := by omega
                  have hp1 : (1 : Int) ≤ (pm key : Int) := by omega
                  have KM4 := Lib.hid (KM3.out.putCnt hct hg)
                  have HX4 := Lib.hid (opblk_map HXW3.out KM3.out.cnt.obj hg)
                  have HKP := Lib.hid hkp
                  have HLE := Lib.hid (show (unpin L key).1.length ≤ most by rw [unpin_lenB]; exact HL.out)
                  rw [hr]
                  clear hr hkp hct hg ec hp0
                  go_wp2_with (fail)
                  go_meet
                  case rel => exact ⟨_, _, _, KM4.out, HKP.out, HLE.out, HX4.out⟩
                · have KM4 := KM3.out
                  rw [hsame] at KM4
                  have KM5 := Lib.hid (KM4.later (Nat.le_succ _))
                  clear hsame KM4
                  rcases hr with hr | hr
                  all_goals
                    rw [hr]
                    clear hr
                    go_wp2_with (fail)
                    go_meet
                    case rel => exact ⟨_, _, _, KM5.out, HP.out, HL.out, HXW3.out⟩
              · have e3 : (a == (3 : Int)) = false := beq_eq_false_iff_ne.2 q3
                by_cases q4 : a = 4
                · subst q4
                  have e0 : ((4 : Int) == 0) = false := rfl
                  have e2 : ((4 : Int) == 2) = false := rfl
                  have e3 : ((4 : Int) == 3) = false := rfl
                  have e4 : ((4 : Int) == 4) = true := rfl
                  have P1 := Lib.hid (S.drop_any hK1.out.is hks2 (by omega))
                  go_wp2_with (fail)
                  refine (P1.out).mono ?_
                  intro e w3 h3
                  have km3 := hK1.out.call h3
                  have hxw3 := opblk_frC (by decide) (by decide) HX1.out (sis_map hK1.out.is) h3.2.2.2
                  have he3 : e = _ := h3.1
                  subst he3
                  have c1w3 : w3.cell? ⟨wr.heap.size, 1, none⟩ = some (.string key) := (cell_at hxw3 1).trans rfl
                  have HXW3 := Lib.hid hxw3
                  have KM3 := Lib.hid km3
                  clear hxw3 km3 h3 P1
                  rcases keep_drop (k := key) HP.out with ⟨hr, hp0, hkp⟩ | ⟨hr, hsame⟩
                  · have hlk := KM3.out.cnt.look hks2
                    rw [hp0] at hlk
                    have KM5 := Lib.hid (KM3.out.later (Nat.le_succ _))
                    have HKP := Lib.hid hkp
                    have HLE := Lib.hid (show (drop L key).1.length ≤ most from Nat.le_trans drop_lenB HL.out)
                    rw [hr]
                    clear hr hkp hp0
                    go_wp2_with (fail)
                    go_meet
                    case rel => exact ⟨_, _, _, KM5.out, HKP.out, HLE.out, HXW3.out⟩
                  · have KM4 := KM3.out
                    rw [hsame] at KM4
                    have KM5 := Lib.hid (KM4.later (Nat.le_succ _))
                    clear hsame KM4
                    rcases hr with hr | hr
                    all_goals
                      rw [hr]
                      clear hr
                      go_wp2_with (fail)
                      go_meet
                      case rel => exact ⟨_, _, _, KM5.out, HP.out, HL.out, HXW3.out⟩
                · have e4 : (a == (4 : Int)) = false := beq_eq_false_iff_ne.2 q4
                  have KM5 := Lib.hid (hK1.out.later (Nat.le_add_right (4 * k) 2))
                  go_wp2_with (fail)
                  go_meet
                  case rel => exact ⟨_, _, _, KM5.out, HP.out, HL.out, HX1.out⟩
        case rest =>
          obtain ⟨L', pm', la', hK', hP', hL', hx'⟩ := hcut
          have KMc := Lib.hid hK'
          have HPc := Lib.hid hP'
          have HLc := Lib.hid hL'
          have HXc := Lib.hid hx'
          have K5 := Lib.hid (S.keys_any hK'.is (by omega))
          clear hK' hP' hL' hx' hK1 HP HL HX1 hcv EW0 EW1
          go_wp2_with (fail)
          refine (K5.out).mono ?_
          rintro e w5 ⟨v5, rfl, ho5, b5⟩
          obtain ⟨A5, cap5, rfl⟩ := Cr.own_slice ho5
          obtain ⟨ks, eks⟩ : ∃ ks, ks = L'.map (·.k) := ⟨_, rfl⟩
          have hm5 : L'.map (fun x => Value.string x.k) = ks.map Value.string := by rw [eks, List.map_map]; rfl
          have hlen : L'.length = ks.length := by rw [eks, List.length_map]
          rw [hm5, hlen] at ho5
          have S5 := Lib.hid ((Strs.of_own ho5).2.1)
          have A5b := Lib.hid ((Strs.of_own ho5).2.2)
          have EKS := Lib.hid eks
          have HLEN := Lib.hid hlen
          have hkm : ks.length ≤ most := by have := HLc.out; omega
          have KM5 := Lib.hid (KMc.out.below b5)
          have hX5 : w5.heap[wr.heap.size]? = some (.cells #[.int .i64 a, .string key, .int .i64 n] 37 (0, 0)) := (b5.block _ (heap_lt HXc.out)).trans HXc.out
          have HX5 := Lib.hid hX5
          have hgt : decide (most < ks.length) = false := decide_eq_false (by omega)
          have hKN : Hid (ks.Nodup) := Lib.hid (by
            rw [eks]
            unfold List.Nodup
            rw [List.pairwise_map]
            exact HPc.out.apart)
          have hKS : Hid (∀ s ∈ ks, s.size ≤ maxLen) := Lib.hid (by
            rw [eks]
            intro s hs
            obtain ⟨y, hy, rfl⟩ := List.mem_map.1 hs
            obtain ⟨_, _, E, h, e⟩ := KMc.out.is
            rw [← e] at hy
            obtain ⟨z, hz, rfl⟩ := List.mem_map.1 hy
            exact h.lens z hz)
          rw [hlen]
          obtain ⟨wt, ewt⟩ : ∃ wt, wt = w5.alloc (.map #[] 0) := ⟨_, rfl⟩
          have bt : Below w5.heap.size w5 wt := by rw [ewt]; exact (Below.refl _ _).alloc (Nat.le_refl _) _
          have KS0 : Hid (KeySet wt w5.heap.size []) := Lib.hid (by rw [ewt]; exact KeySet.made w5)
          have EWT := Lib.hid ewt
          have hnk : (ks.length : Int) ≤ 1000 := by omega
          clear ho5 hm5 eks hlen hX5 ewt K5
          go_wp2_with (fail)
          rw [← EWT.out]
          go_loopw [14] (fun i wx => ∃ j : Nat, i = .int .i64 j ∧ j ≤ ks.length ∧ KeySet wx w5.heap.size (ks.take j) ∧ Below w5.heap.size w5 wx) (fun i _ => ks.length - (intOf i).toNat)
          case atStart => exact ⟨0, rfl, Nat.zero_le _, by simpa using KS0.out, bt⟩
          case round =>
            obtain ⟨j, rfl, hj, hks0, hbx⟩ := hrel
            rename World => wx
            by_cases hjl : j < ks.length
            · obtain ⟨ad5, e5, hc5⟩ := (S5.out.keep hbx A5b.out) (by omega)
              subst e5
              have g5 := hc5 j hjl
              have hsz := hKS.out _ (List.getElem_mem hjl)
              have hnin : ks[j] ∉ ks.take j := fun h => by
                obtain ⟨i, hi, he⟩ := List.mem_iff_getElem.1 h
                rw [List.length_take] at hi
                rw [List.getElem_take] at he
                have := (List.getElem_inj hKN.out).1 he
                omega
              obtain ⟨w6, hmu, hks1, hg6⟩ := hks0.add hsz hnin (by rw [List.length_take]; omega)
              have HT : Hid (KeySet w6 w5.heap.size (ks.take (j + 1))) := Lib.hid (by rw [List.take_succ_eq_append_getElem hjl]; exact hks1)
              have HB6 : Hid (Below w5.heap.size w5 w6) := Lib.hid (hbx.grown hg6 hbx.size (fun k e => by injection e with e; omega))
              have hjI : (j : Int) < (ks.length : Int) := by omega
              have hj0 : (0 : Int) ≤ (j : Int) := by omega
              clear hc5 hks0 hks1 hnin hg6 hbx
              generalize ks[j] = s at *
              go_wp2_with (fail)
              go_roundw
              case rel => exact ⟨j + 1, by go_num, by omega, HT.out, HB6.out⟩
              case measure => simp [intOf]; omega
            · obtain rfl : j = ks.length := by omega
              rw [List.take_length] at hks0
              have KS1 := Lib.hid hks0
              have hlen13 := hks0.len 3
              have KM6 := Lib.hid (KM5.out.below hbx)
              have hx6 : wx.heap[wr.heap.size]? = some (.cells #[.int .i64 a, .string key, .int .i64 n] 37 (0, 0)) := (hbx.block _ (heap_lt HX5.out)).trans HX5.out
              have HX6 := Lib.hid hx6
              have hne : ((ks.length : Int) != (ks.length : Int)) = false := by simp
              obtain ⟨D7, n7, ho7, hn7, hat7, hpm7⟩ := KM6.out.cnt
              have HAT := Lib.hid hat7
              have hbt : w5.heap.size < wx.heap.size := by obtain ⟨D, nn, h, _⟩ := KS1.out; exact h.lt
              have h7t : w1.heap.size ≠ w5.heap.size := by
                obtain ⟨es, cl, h⟩ := KM5.out.cnt.obj
                have := heap_lt h
                omega
              clear hks0 hbx hx6 hat7 hpm7
              go_wp2_with (first | (at_range; refine wpList_range_own _ rfl _ 46 rfl 9 3 kstr Try.underlying46 _ w1.heap.size n7 D7 rfl ho7 ?_; intro w7 hrg0 hg7 hs7))
              go_frame
              have K7b := hg7.size
              have hb7 : Below wx.heap.size wx w7 := ⟨hg7.os, hg7.tape, hg7.output, hg7.size, fun i hi => hg7.block i hi (by simp)⟩
              go_loopw [] (fun wy => ∃ (left : Lit → Bool) (cnt : Nat), wy.ranges Try.prog 9 (plainElem (H := Unit) Try.prog 3) w1.heap.size wx.heap.size n7 D7 left cnt ∧ Below wx.heap.size wx wy) (fun wy => wy.rangeLeft w1.heap.size wx.heap.size)
              case atStart => exact ⟨_, _, hrg0, hb7⟩
              case round =>
                obtain ⟨left, cnt, hrg, hby⟩ := hrel
                rename World => wy
                go_wp2_with (first | (at_next; refine wpList_next_ranges _ rfl _ rfl 9 kstr _ Value.string (Value.int .i64) (fun key kl hk => by obtain ⟨x, hx, _⟩ := Maps.keyOf_str Try.underlying9 hk; exact ⟨⟨x.toArray⟩, hx⟩) (fun v y hv => by obtain ⟨c, rfl, _⟩ := plainElem_int_inv Try.underlying3 hv; exact ⟨c, rfl⟩) w1.heap.size wx.heap.size n7 _ _ _ rfl hrg ?_ ?_))
                · intro hc0 hl0
                  have KMy := KM6.out.below hby
                  have hxy : wy.heap[wr.heap.size]? = some (.cells #[.int .i64 a, .string key, .int .i64 n] 37 (0, 0)) := (hby.block _ (heap_lt HX6.out)).trans HX6.out
                  have KSy := KS1.out.move (hby.block _ hbt)
                  have P9 := Lib.hid (S.get_any KMy.is hks2 (by omega))
                  have x1 : wy.cell? ⟨wr.heap.size, 1, none⟩ = some (.string key) := (cell_at hxy 1).trans rfl
                  have KMY := Lib.hid KMy
                  have HXY := Lib.hid hxy
                  have KSY := Lib.hid KSy
                  clear KMy hxy KSy hrg hrg0 hby hl0 hb7 hg7 ho7
                  go_wp2_with (fail)
                  refine (P9.out).mono ?_
                  intro e w9 h9
                  have KM9 := Lib.hid ((KMY.out.call h9).later (show 4 * k + 2 + 1 ≤ 4 * (k + 1) by omega))
                  have hx9 := opblk_frC (by decide) (by decide) HXY.out (sis_map KMY.out.is) h9.2.2.2
                  have ht9 : ∃ es cl, wy.heap[w5.heap.size]? = some (.map es cl) := by
                    obtain ⟨D, nn, h, _⟩ := KSY.out
                    exact own_obj h
                  have KS9 := KSY.out.move (map_frC ht9 (by have := hm1; have := KMc.out.low.size; obtain ⟨es, cl, h⟩ := KM5.out.cnt.obj; have := heap_lt h; omega) h9.2.2.2)
                  have c1w9 : w9.cell? ⟨wr.heap.size, 1, none⟩ = some (.string key) := (cell_at hx9 1).trans rfl
                  have hlt9 := KM9.out.txt.look hks2
                  have hlen9 : Hid ((Ca.get L' key).1.length ≤ most) := Lib.hid (by rw [get_lenB]; exact HLc.out)
                  obtain ⟨hkp, hcase⟩ := keep_get (k := key) HPc.out
                  have HKP := Lib.hid hkp
                  have he := h9.1
                  clear h9 hkp hx9 ht9
                  rcases hcase with ⟨hr, y, hy, hyk⟩ | ⟨hr, hno⟩
                  · rcases KS9.look hks2 with ⟨_, hlk⟩ | ⟨hn, _⟩
                    · rw [hr] at he
                      subst he
                      dsimp only [S.got]
                      have hss : ((la' key).toList == (la' key).toList) = true := by simp
                      clear hr hy hyk KS9
                      go_wp2_with (fail)
                      go_roundw
                      case rel => exact ⟨k + 1, _, _, _, by go_num, by omega, by omega, KM9.out, HKP.out, hlen9.out⟩
                      case measure => simp [intOf]; omega
                    · exact absurd (by rw [EKS.out]; exact List.mem_map.2 ⟨y, hy, hyk⟩) hn
                  · rcases KS9.look hks2 with ⟨hn, _⟩ | ⟨_, hlk⟩
                    · rw [EKS.out] at hn
                      obtain ⟨y, hy, hyk⟩ := List.mem_map.1 hn
                      exact absurd hyk (hno y hy)
                    · rw [hr] at he
                      subst he
                      dsimp only [S.got]
                      clear hr hno KS9
                      go_wp2_with (fail)
                      go_roundw
                      case rel => exact ⟨k + 1, _, _, _, by go_num, by omega, by omega, KM9.out, HKP.out, hlen9.out⟩
                      case measure => simp [intOf]; omega
                · intro x cc kl yd yp w8 cnt2 hkey hlk hRv hat hrg2 hlt2 hg8 hs8 hen
                  obtain ⟨x', ex, rfl, hxl⟩ := Maps.keyOf_str Try.underlying9 hkey
                  have hxx : x = ⟨x'.toArray⟩ := by injection ex
                  subst hxx
                  obtain ⟨c', ec, ey, _⟩ := plainElem_int_inv Try.underlying3 hRv
                  obtain ⟨rfl, _⟩ : yd = .lit (.int .i64 c') ∧ yp = [] := by injection ey with e1 e2; exact ⟨e1, e2⟩
                  have hcc : cc = (pm' ⟨x'.toArray⟩ : Int) := by
                    have h1 := HAT.out ⟨x'.toArray⟩
                    have h2 := hat (.lit (.int .i64 0))
                    rw [show tl ⟨x'.toArray⟩ = x' from rfl] at h1
                    rw [h1] at h2
                    injection ec with _ ec
                    injection h2 with h2
                    injection h2 with _ h2
                    rw [ec, h2]
                  have hxsz : (⟨x'.toArray⟩ : ByteArray).size ≤ maxLen := by
                    have e : (⟨x'.toArray⟩ : ByteArray).size = x'.length := by rw [Lib.size_eq]
                    rw [e]; exact hxl
                  have hb8 : Below wx.heap.size wx w8 := hby.grown hg8 hby.size (fun k e => by injection e with e; omega)
                  have hm8 : w8.rangeLeft w1.heap.size wx.heap.size < wy.rangeLeft w1.heap.size wx.heap.size := by rw [hrg2.left_eq, hrg.left_eq]; exact hlt2
                  have KS8 := KS1.out.move (hb8.block _ hbt)
                  generalize hxv : (⟨x'.toArray⟩ : ByteArray) = xv at *
                  subst hcc
                  have HB8 := Lib.hid hb8
                  have HR2 := Lib.hid hrg2
                  have HM8 := Lib.hid hm8
                  clear hrg hrg0 hby hb7 hg7 ho7 hat hkey hRv ec hlk hxv hg8 hs8 hb8 hrg2 hm8 ex
                  by_cases hp0 : pm' xv = 0
                  · have hd0 : decide (0 < pm' xv) = false := decide_eq_false (by omega)
                    clear KS8
                    go_wp2_with (fail)
                    go_roundw
                    case rel => exact ⟨_, cnt2, HR2.out, HB8.out⟩
                    case measure => exact HM8.out
                  · have hd0 : decide (0 < pm' xv) = true := decide_eq_true (by omega)
                    rcases KS8.look hxsz with ⟨_, hlk⟩ | ⟨hn, _⟩
                    · clear KS8
                      go_wp2_with (fail)
                      go_roundw
                      case rel => exact ⟨_, cnt2, HR2.out, HB8.out⟩
                      case measure => exact HM8.out
                    · exfalso
                      obtain ⟨y, hy, hyk⟩ := HPc.out.there (k := xv) (by omega)
                      exact hn (by rw [EKS.out]; exact List.mem_map.2 ⟨y, hy, hyk⟩)
      · have hk200 : ¬ (k : Int) < 200 := by omega
        have hkI : (k : Int) < (l.length : Int) := by omega
        have AW := Lib.hid (Cr.awake_low hb hBs)
        clear hK
        go_wp2_with (go_at_call 7; ((with_reducible refine (AW.out).mono ?_); rintro e w' ⟨rfl, hbb⟩))
        go_ret
        exact ⟨rfl, hbb⟩
    · obtain rfl : k = l.length := by omega
      have AW := Lib.hid (Cr.awake_low hb hBs)
      clear hK
      go_wp2_with (go_at_call 7; ((with_reducible refine (AW.out).mono ?_); rintro e w' ⟨rfl, hbb⟩))
      go_ret
      exact ⟨rfl, hbb⟩
theorem keeps_law (most : Int) (A : Option Addr) (l : List Opn) (cap : Nat) (w : World) (hl : l.length ≤ maxLen) (hks : ∀ x ∈ l, x.k.size ≤ maxLen) (hO : OpsAt w w.heap.size A l) :
    Calls Try.prog 5 #[.int .i64 most, .slice A l.length cap] w fun e w' => e = .returned (.bool true) ∧ Below w.heap.size w w' := by
  by_cases h : most < 1 ∨ 1000 < most
  · exact keeps_bad most _ w h
  · obtain ⟨n, rfl⟩ := Int.eq_ofNat_of_zero_le (a := most) (by omega)
    exact keeps_good n A l cap w (by omega) (by omega) hl hks hO
end Go.Proofs.Ytcifjhhofefpjaa.Ca
