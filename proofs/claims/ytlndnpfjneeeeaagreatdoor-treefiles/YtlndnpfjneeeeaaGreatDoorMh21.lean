/- Joined by mkmerged.py: SymW5, SymW6, SymW7, SymW8. -/
import Derived.Test.YtlndnpfjneeeeaaGreatDoorMh20
import Derived.Deep.CutRange
import Derived.Deep.DeepCutAuto
import Derived.Test.YtlndnpfjneeeeaaGreatDoorMh11
import Derived.Test.YtlndnpfjneeeeaaGreatDoorMh17
import Derived.Sort.Walk0
import Derived.Laws.Cover1
import Derived.Shelf.SlSortCmp.NoneTotal
import Derived.Test.YtlndnpfjneeeeaaGreatDoorMh10
/- SymW5, what a claim needs of it (prune.py). -/
namespace Go.Proofs.YtlndnpfjneeeeaaGreatDoor.Sy
open Go.Shelf Go.RowKit Go.Lib Go.Sort
set_option linter.unusedVariables false
structure Sea (lt : Fl → Fl → Bool) (p lo s r0 r : Nat) (d : Array Fl) : Prop where
  yes : ∀ c, lo ≤ c → c < s → lt d[p - c]! d[c]! = false
  no : ∀ c, r ≤ c → c < r0 → lt d[p - c]! d[c]! = true
set_option maxHeartbeats 8000000 in
set_option maxRecDepth 1000000 in
theorem symMerge_all (g : Nat) (cb : Array Value) (cf : Fl → Fl → Int) (hO : SWO (ltOf cf)) (blk off cap : Nat) (d0 : Array Fl) (w0 : World)
    (eg : ∀ args w, (callFunc g args).run Tryz.prog w = .ok (.enter g args) w) (hcmp : CmpLays Tryz.prog g cb enc 2 cf blk off d0.size w0) (R : RowK enc 2 w0 blk off d0) :
    ∀ (N a m b : Nat) (d : Array Fl) (w : World), b - a < N → d0.size = d.size → SWK enc 2 w0 blk off d w → a < m → m < b → b ≤ d.size → d.size ≤ 1000000 → SortedIn (ltOf cf) a m d → SortedIn (ltOf cf) m b d →
    Calls Tryz.prog 189 #[.slice (some ⟨blk, off, none⟩) d.size cap, .int .i64 a, .int .i64 m, .int .i64 b, .func (.func g) #[] cb] w fun e w' => e = .returned (.tuple #[]) ∧ ∃ d', PermIn a b d d' ∧ SortedIn (ltOf cf) a b d' ∧ SWK enc 2 w0 blk off d' w'
  | 0, _, _, _, _, _, h, _, _, _, _, _, _, _, _ => absurd h (by omega)
  | N + 1, a, m, b, d, w, hN, hs, S, ham, hmb, hb, hsz, hl, hr => by
    by_cases hm1 : m = a + 1
    · exact merge_up g cb cf hO blk off cap d0 w0 eg hcmp R a m b d w hs S hm1 hmb hb hsz hr
    by_cases hb1 : b = m + 1
    · exact merge_down g cb cf hO blk off cap d0 w0 eg hcmp R a m b d w hs S (by omega) hb1 hb hsz hl
    have IH : Hid (∀ a' m' b' (d' : Array Fl) w', b' - a' < b - a → d0.size = d'.size → SWK enc 2 w0 blk off d' w' → a' < m' → m' < b' → b' ≤ d'.size → SortedIn (ltOf cf) a' m' d' → SortedIn (ltOf cf) m' b' d' →
        Calls Tryz.prog 189 #[.slice (some ⟨blk, off, none⟩) d.size cap, .int .i64 a', .int .i64 m', .int .i64 b', .func (.func g) #[] cb] w' fun e w2 => e = .returned (.tuple #[]) ∧ ∃ d2, PermIn a' b' d' d2 ∧ SortedIn (ltOf cf) a' b' d2 ∧ SWK enc 2 w0 blk off d2 w2) := Lib.hid fun a' m' b' d' w' h1 h2 h3 h4 h5 h6 h7 h8 => by
      have h := symMerge_all g cb cf hO blk off cap d0 w0 eg hcmp R N a' m' b' d' w' (by omega) h2 h3 h4 h5 h6 (by omega) h7 h8
      have e : d'.size = d.size := by omega
      rw [e] at h
      exact h
    have S0 : Hid (SWK enc 2 w0 blk off d w) := Lib.hid S
    have HL := Lib.hid hl
    have HR := Lib.hid hr
    have HC := Lib.hid hcmp
    have mixed : Tryz.prog.follows Departure.mixedOrders = true := by kernel_rfl
    have e0 : ((m : Int) - (a : Int) == 1) = false := by simp; omega
    have e00 : ¬ (m : Int) - (a : Int) = 1 := by omega
    have e1 : ((b : Int) - (m : Int) == 1) = false := by simp; omega
    have e11 : ¬ (b : Int) - (m : Int) = 1 := by omega
    obtain ⟨mid, hmid⟩ : ∃ mid, mid = (a + b) / 2 := ⟨_, rfl⟩
    have hmidI : ((a : Int) + (b : Int)) / 2 = (mid : Int) := by omega
    have HMID := Lib.hid hmid
    obtain ⟨n, hn⟩ : ∃ n, n = mid + m := ⟨_, rfl⟩
    have hnI : (mid : Int) + (m : Int) = (n : Int) := by omega
    obtain ⟨p, hp⟩ : ∃ p, p = n - 1 := ⟨_, rfl⟩
    have hpI : (n : Int) - 1 = (p : Int) := by omega
    have GEO : Hid (a < mid ∧ mid < b ∧ p + 1 = mid + m ∧ n = mid + m) := Lib.hid ⟨by omega, by omega, by omega, hn⟩
    have hnb : (b : Int) ≤ (n : Int) ∨ m ≤ mid := by omega
    have ROT := Lib.hid (fun s e (d : Array Fl) w (hs : d0.size = d.size) (S : SWK enc 2 w0 blk off d w) (h1 : s < m) (h2 : m < e) (h3 : e ≤ d.size) (h4 : d.size ≤ 1000000) => rotate_any (.func (.func g) #[] cb) blk off cap s m e d0 d w0 w R hs S h1 h2 h3 h4)
    have HALF : Hid (∀ s (d' : Array Fl), (∃ lo r, ((mid < m ∧ lo = mid + m - b ∧ r = mid) ∨ (m ≤ mid ∧ lo = a ∧ r = m)) ∧ lo ≤ s ∧ s ≤ r ∧ Sea (ltOf cf) p lo s r s d) → Rot s m (n - s) d d' → Halves (ltOf cf) a s mid (n - s) b d') := Lib.hid fun s d' ⟨lo, r, hh, hlo, hsr, hS⟩ hrot => by
      rw [hn] at hrot ⊢
      have ep : mid + m - 1 = p := by omega
      exact halves hO ham hmb hmid hh HL.out HR.out ⟨hlo, hsr, fun c h1 h2 => by rw [ep]; exact hS.yes c h1 h2, fun c h1 h2 => by rw [ep]; exact hS.no c h1 h2⟩ hrot
    clear S hl hr hcmp hm1 hb1 hmid hn hp
    go_enter Tryz.func189, Tryz.ntmps189
    have START : Hid (∃ lo r0, ((mid < m ∧ lo = mid + m - b ∧ r0 = mid) ∨ (m ≤ mid ∧ lo = a ∧ r0 = m))) := Lib.hid (by
      rcases Nat.lt_or_ge mid m with h | h
      · exact ⟨_, _, .inl ⟨h, rfl, rfl⟩⟩
      · exact ⟨_, _, .inr ⟨h, rfl, rfl⟩⟩)
    go_upto_if 140 with (fail)
    go_cut [20, 21] from 138 to 148 (fun v20 v21 wx => (∃ lo r0, v20 = .int .i64 ((lo : Nat) : Int) ∧ v21 = .int .i64 ((r0 : Nat) : Int) ∧ ((mid < m ∧ lo = mid + m - b ∧ r0 = mid) ∨ (m ≤ mid ∧ lo = a ∧ r0 = m))) ∧ w = wx)
    case first =>
      rcases Nat.lt_or_ge mid m with hlt | hlt
      · have q0 : (mid : Int) < (m : Int) := by omega
        have q1 : (n : Int) - (b : Int) = ((n - b : Nat) : Int) := by have := GEO.out; omega
        have EN : Hid (n - b = mid + m - b) := Lib.hid (by have := GEO.out; omega)
        clear START
        go_wp2_with (fail)
        go_meet
        exact ⟨⟨n - b, mid, by go_num, rfl, .inl ⟨hlt, EN.out, rfl⟩⟩, rfl⟩
      · have q0 : ¬ (mid : Int) < (m : Int) := by omega
        clear START
        go_wp2_with (fail)
        go_meet
        exact ⟨⟨a, m, rfl, rfl, .inr ⟨hlt, rfl, rfl⟩⟩, rfl⟩
    case rest =>
      obtain ⟨⟨lo, r0, rfl, rfl, hh⟩, rfl⟩ := hcut
      have HH := Lib.hid hh
      have hlr : lo ≤ r0 := by have := GEO.out; omega
      clear hh START
      go_wp2_with (fail)
      clear hpI hmidI e0 e00 e1 e11 hnb hnI
      go_loopg [20, 21, 23] (b - a) (fun kx s20 s21 s23 wr => ∃ (i j : Nat), s20 = .int .i64 i ∧ s21 = .int .i64 j ∧ lo ≤ i ∧ i ≤ j ∧ j ≤ r0 ∧ j - i ≤ kx ∧ Hid (SWK enc 2 w0 blk off d wr) ∧ Hid (Sea (ltOf cf) p lo i r0 j d))
      case atStart => exact ⟨lo, r0, rfl, rfl, Nat.le_refl _, hlr, Nat.le_refl _, by have := HH.out; have := GEO.out; omega, S0, Lib.hid ⟨fun c h1 h2 => by omega, fun c h1 h2 => by omega⟩⟩
      case round =>
        clear S0
        obtain ⟨i, j, rfl, rfl, hai, hij, hjr, hkx, S1, SE⟩ := hrel
        by_cases hlt : i < j
        · have q1 : (i : Int) < (j : Int) := by omega
          obtain ⟨c, eh⟩ : ∃ c, c = (i + j) / 2 := ⟨_, rfl⟩
          obtain ⟨q, eq⟩ : ∃ q, q = p - c := ⟨_, rfl⟩
          have hh : ((i : Int) + (j : Int)) / 2 = (c : Int) := by omega
          have CQ : Hid (lo ≤ c ∧ i ≤ c ∧ c < j ∧ c < m ∧ c < mid ∧ m ≤ q ∧ q < b ∧ a ≤ c) := Lib.hid (by have := HH.out; have := GEO.out; have := HMID.out; omega)
          have hpq : (p : Int) - (c : Int) = (q : Int) := by have := CQ.out; have := GEO.out; omega
          have g2 : IntKind.i64.wrap (q : Int) = (q : Int) := by rw [IntKind.wrap_i64]; have := CQ.out; omega
          have b0 : (0 : Int) ≤ (c : Int) := by omega
          have b00 : (0 : Int) ≤ (q : Int) := by omega
          have b1 : (c : Int) < (d.size : Int) := by have := CQ.out; omega
          have b2 : (q : Int) < (d.size : Int) := by have := CQ.out; omega
          have t1 : ((c : Int)).toNat = c := by omega
          have t2 : ((q : Int)).toNat = q := by omega
          have cA := fun n os => (cells_at (S1.out.grown n os) R hs.symm (i := c) (by have := CQ.out; omega)).1.1
          have cB := fun n os => (cells_at (S1.out.grown n os) R hs.symm (i := c) (by have := CQ.out; omega)).1.2
          have cC := fun n os => (cells_at (S1.out.grown n os) R hs.symm (i := q) (by have := CQ.out; omega)).1.1
          have cD := fun n os => (cells_at (S1.out.grown n os) R hs.symm (i := q) (by have := CQ.out; omega)).1.2
          have hcg := fun n os => S1.out.cmp HC.out hs.symm d[q]! d[c]! n os
          have GW := Lib.hid (S1.out.grown)
          have EH := Lib.hid eh
          have EQ := Lib.hid eq
          clear eh eq IH ROT HALF
          by_cases hlv : cf d[q]! d[c]! < 0
          · have hd : decide (cf d[q]! d[c]! < 0) = true := decide_eq_true hlv
            have LV : Hid (ltOf cf d[q]! d[c]! = true) := Lib.hid (decide_eq_true hlv)
            have SN : Hid (Sea (ltOf cf) p lo i r0 c d) := Lib.hid ⟨SE.out.yes, fun c' k1 k2 => by
              have h1 := CQ.out
              have h2 := EQ.out
              have h3 := HH.out
              have h4 := GEO.out
              exact bs_down hO HL.out HR.out h1.2.2.2.2.2.2.2 k1 (by omega) (by omega) (by omega) h1.2.2.2.2.2.2.1 LV.out⟩
            go_wp2_with fail
            go_quiet_grown (first | (go_at_fn g; refine Calls.grown_of (hcg _ _)))
            go_wp2
            go_roundg (c - i)
            case measure => have := CQ.out; omega
            case rel => exact ⟨i, c, rfl, rfl, hai, by have := CQ.out; omega, by have := CQ.out; omega, Nat.le_refl _, Lib.hid (GW.out _ _), SN⟩
          · have hd : decide (cf d[q]! d[c]! < 0) = false := decide_eq_false hlv
            have LV : Hid (ltOf cf d[q]! d[c]! = false) := Lib.hid (decide_eq_false hlv)
            have SN : Hid (Sea (ltOf cf) p lo (c + 1) r0 j d) := Lib.hid ⟨fun c' k1 k2 => by
              have h1 := CQ.out
              have h2 := EQ.out
              have h3 := HH.out
              have h4 := GEO.out
              have h5 := HMID.out
              exact bs_up hO HL.out HR.out (by omega) (by omega) h1.2.2.2.1 h1.2.2.2.2.2.1 (by omega) (by omega) LV.out, SE.out.no⟩
            go_wp2_with fail
            go_quiet_grown (first | (go_at_fn g; refine Calls.grown_of (hcg _ _)))
            go_wp2
            go_roundg (j - (c + 1))
            case measure => have := CQ.out; omega
            case rel => exact ⟨c + 1, j, by go_num, rfl, by have := CQ.out; omega, by have := CQ.out; omega, hjr, Nat.le_refl _, Lib.hid (GW.out _ _), SN⟩
        · obtain ⟨s, hsi⟩ : ∃ s, s = i := ⟨_, rfl⟩
          obtain rfl : j = s := by omega
          subst hsi
          have q1 : ¬ (j : Int) < (j : Int) := by omega
          obtain ⟨e, he⟩ : ∃ e, e = n - j := ⟨_, rfl⟩
          have FACT : Hid (j ≤ m ∧ j ≤ mid ∧ a ≤ j ∧ m ≤ e ∧ mid ≤ e ∧ e ≤ b ∧ e = n - j) := Lib.hid (by have := HH.out; have := GEO.out; have := HMID.out; omega)
          have hed : e ≤ d.size := by have := FACT.out; omega
          have heI : (n : Int) - (j : Int) = (e : Int) := by have := FACT.out; have := GEO.out; omega
          have HV : Hid (∀ d', Rot j m e d d' → Halves (ltOf cf) a j mid e b d') := Lib.hid fun d' h => by
            rw [he] at h ⊢
            exact HALF.out j d' ⟨lo, r0, HH.out, hai, hjr, SE.out⟩ h
          clear he HALF SE HL HR HC HH
          have ST : Hid (SWK enc 2 w0 blk off d wr) := S1
          clear S1 hai hij hkx hjr hlt hlr
          go_upto_region 39 with (fail)
          obtain ⟨T, hT⟩ : ∃ T, T = decide (j < m ∧ m < e) := ⟨_, rfl⟩
          have HT := Lib.hid hT
          clear hT heI q1
          go_cut [185] from 178 to 185 (fun v wx => v = .bool T ∧ wr = wx)
          case first =>
            by_cases h1 : j < m
            · have q2 : (j : Int) < (m : Int) := by omega
              by_cases h2 : m < e
              · have q3 : (m : Int) < (e : Int) := by omega
                have q4 : decide (j < m ∧ m < e) = true := decide_eq_true ⟨h1, h2⟩
                have F := Lib.hid (HT.out.trans q4)
                clear q4 HT
                go_wp2_with (fail)
                go_meet
                exact ⟨by rw [F.out], rfl⟩
              · have q3 : ¬ (m : Int) < (e : Int) := by omega
                have q4 : decide (j < m ∧ m < e) = false := decide_eq_false (fun h => h2 h.2)
                have F := Lib.hid (HT.out.trans q4)
                clear q4 HT
                go_wp2_with (fail)
                go_meet
                exact ⟨by rw [F.out], rfl⟩
            · have q2 : ¬ (j : Int) < (m : Int) := by omega
              have q4 : decide (j < m ∧ m < e) = false := decide_eq_false (fun h => h1 h.1)
              have F := Lib.hid (HT.out.trans q4)
              clear q4 HT
              go_wp2_with (fail)
              go_meet
              exact ⟨by rw [F.out], rfl⟩
          case rest =>
            obtain ⟨rfl, rfl⟩ := hcut
            go_upto_if 185 with (fail)
            go_cut [] from 186 to 191 (fun wx => ∃ d1, Rot j m e d d1 ∧ SWK enc 2 w0 blk off d1 wx)
            case first =>
              cases T
              · have F : ¬ (j < m ∧ m < e) := of_decide_eq_false HT.out.symm
                have G : Hid (Rot j m e d d) := Lib.hid (by
                  rcases Nat.lt_or_ge j m with h1 | h1
                  · obtain rfl : m = e := by have := FACT.out; omega
                    exact Rot.same_right
                  · obtain rfl : j = m := by have := FACT.out; omega
                    exact Rot.same_left)
                clear F HT
                go_wp2_with (fail)
                go_meet
                exact ⟨d, G.out, ST.out⟩
              · have F : j < m ∧ m < e := of_decide_eq_true HT.out.symm
                have C := Lib.hid (ROT.out j e d wr hs ST.out F.1 F.2 (by have := FACT.out; omega) hsz)
                clear F HT
                go_wp2_with (go_at_call 258; (with_reducible refine (C.out).mono ?_); rintro e9 w2 ⟨rfl, d1, T1, S2⟩)
                go_meet
                exact ⟨d1, T1, S2⟩
            case rest =>
              obtain ⟨d1, T1, S2⟩ := hcut
              have hds1 : d1.size = d.size := T1.perm.1
              have HA := Lib.hid (HV.out d1 T1)
              have T1 := Lib.hid T1
              have S2 := Lib.hid S2
              clear HV ST ROT HT
              obtain ⟨T2, hT2⟩ : ∃ T2, T2 = decide (a < j ∧ j < mid) := ⟨_, rfl⟩
              have HT2 := Lib.hid hT2
              clear hT2
              go_upto_region 41 with (fail)
              go_cut [199] from 192 to 199 (fun v wx => v = .bool T2 ∧ SWK enc 2 w0 blk off d1 wx)
              case first =>
                by_cases h1 : a < j
                · have q2 : (a : Int) < (j : Int) := by omega
                  by_cases h2 : j < mid
                  · have q3 : (j : Int) < (mid : Int) := by omega
                    have F := Lib.hid (HT2.out.trans (decide_eq_true ⟨h1, h2⟩))
                    clear HT2
                    go_wp2_with (fail)
                    go_meet
                    exact ⟨by rw [F.out], S2.out⟩
                  · have q3 : ¬ (j : Int) < (mid : Int) := by omega
                    have F := Lib.hid (HT2.out.trans (decide_eq_false (fun h => h2 h.2)))
                    clear HT2
                    go_wp2_with (fail)
                    go_meet
                    exact ⟨by rw [F.out], S2.out⟩
                · have q2 : ¬ (a : Int) < (j : Int) := by omega
                  have F := Lib.hid (HT2.out.trans (decide_eq_false (fun h => h1 h.1)))
                  clear HT2
                  go_wp2_with (fail)
                  go_meet
                  exact ⟨by rw [F.out], S2.out⟩
              case rest =>
                obtain ⟨rfl, hsw2⟩ := hcut
                have S3 := Lib.hid hsw2
                clear S2 hsw2
                go_upto_if 199 with (fail)
                go_cut [] from 200 to 205 (fun wx => ∃ d2, PermIn a mid d1 d2 ∧ SortedIn (ltOf cf) a mid d2 ∧ SWK enc 2 w0 blk off d2 wx)
                case first =>
                  cases T2
                  · have F : ¬ (a < j ∧ j < mid) := of_decide_eq_false HT2.out.symm
                    have G : Hid (SortedIn (ltOf cf) a mid d1) := Lib.hid (by
                      have h1 := HA.out.s1
                      have h2 := HA.out.s2
                      rcases Nat.lt_or_ge a j with h3 | h3
                      · obtain rfl : j = mid := by have := FACT.out; omega
                        exact h1
                      · obtain rfl : j = a := by have := FACT.out; omega
                        exact h2)
                    clear F HT2
                    go_wp2_with (fail)
                    go_meet
                    exact ⟨d1, permIn_refl _ _ _, G.out, S3.out⟩
                  · have F : a < j ∧ j < mid := of_decide_eq_true HT2.out.symm
                    have C := Lib.hid (IH.out a j mid d1 wc (by have := GEO.out; omega) (by omega) S3.out F.1 F.2 (by have := GEO.out; omega) HA.out.s1 HA.out.s2)
                    clear F HT2
                    go_wp2_with (go_at_call 189; (with_reducible refine (C.out).mono ?_); rintro e9 w2 ⟨rfl, d2, P2, O2, S4⟩)
                    go_meet
                    exact ⟨d2, P2, O2, S4⟩
                case rest =>
                  obtain ⟨d2, P2, O2, S4⟩ := hcut
                  have hds2 : d2.size = d1.size := P2.1
                  have P2 := Lib.hid P2
                  have O2 := Lib.hid O2
                  have S4 := Lib.hid S4
                  have END : Hid (∀ d3 w', PermIn mid b d2 d3 → SortedIn (ltOf cf) mid b d3 → SWK enc 2 w0 blk off d3 w' → ∃ d', PermIn a b d d' ∧ SortedIn (ltOf cf) a b d' ∧ SWK enc 2 w0 blk off d' w') := Lib.hid fun d3 w' h1 h2 h3 => by
                    obtain ⟨k1, k2⟩ := halves_end HA.out (by have := GEO.out; omega) (by have := GEO.out; omega) (by omega) P2.out O2.out h1 h2
                    exact ⟨d3, pand (pmono T1.out.perm (by have := FACT.out; omega) (by have := FACT.out; omega) hb) k1, k2, h3⟩
                  have PRE : Hid (∀ x y, mid ≤ x → y ≤ b → SortedIn (ltOf cf) x y d1 → SortedIn (ltOf cf) x y d2) := Lib.hid fun x y hx hy h i k h1 h2 h3 => by
                    rw [P2.out.2.1 i (.inr (by omega)), P2.out.2.1 k (.inr (by omega))]
                    exact h i k h1 h2 h3
                  clear S3 HT2
                  by_cases h1 : mid < e
                  · have q2 : (mid : Int) < (e : Int) := by omega
                    by_cases h2 : e < b
                    · have q3 : (e : Int) < (b : Int) := by omega
                      have C := Lib.hid (IH.out mid e b d2 wc (by have := GEO.out; omega) (by omega) S4.out h1 h2 (by omega) (PRE.out _ _ (Nat.le_refl _) (by omega) HA.out.s3) (PRE.out _ _ (by omega) (Nat.le_refl _) HA.out.s4))
                      clear IH PRE
                      go_wp2_with (go_at_call 189; (with_reducible refine (C.out).mono ?_); rintro e9 w2 ⟨rfl, d3, P3, O3, S5⟩)
                      go_end0
                      exact ⟨rfl, END.out d3 w2 P3 O3 S5⟩
                    · have q3 : ¬ (e : Int) < (b : Int) := by omega
                      have G : Hid (SortedIn (ltOf cf) mid b d2) := Lib.hid (by
                        obtain rfl : e = b := by have := FACT.out; omega
                        exact PRE.out _ _ (Nat.le_refl _) (Nat.le_refl _) HA.out.s3)
                      clear IH PRE
                      go_wp2_with (fail)
                      go_end0
                      exact ⟨rfl, END.out d2 _ (permIn_refl _ _ _) G.out S4.out⟩
                  · have q2 : ¬ (mid : Int) < (e : Int) := by omega
                    have G : Hid (SortedIn (ltOf cf) mid b d2) := Lib.hid (by
                      obtain rfl : mid = e := by have := FACT.out; omega
                      exact PRE.out _ _ (Nat.le_refl _) (Nat.le_refl _) HA.out.s4)
                    clear IH PRE
                    go_wp2_with (fail)
                    go_end0
                    exact ⟨rfl, END.out d2 _ (permIn_refl _ _ _) G.out S4.out⟩
end Go.Proofs.YtlndnpfjneeeeaaGreatDoor.Sy
/- SymW6, what a claim needs of it (prune.py). -/
namespace Go.Proofs.YtlndnpfjneeeeaaGreatDoor.Sy
open Go.Shelf Go.RowKit Go.Lib Go.Sort
set_option linter.unusedVariables false
set_option maxRecDepth 100000
open Fs (B)
def cmpS (a b : B) : Int := if a < b then -1 else if a = b then 0 else 1
theorem isnan_any (s : ByteArray) (w : World) : Calls Tryz.prog 96 #[.string s] w fun e w' => e = .returned (.bool false) ∧ w = w' := by
  have q : (s.toList == s.toList) = true := by simp
  go_enter Tryz.func96, Tryz.ntmps96
  go_wp2_with (fail)
  go_ret
  exact ⟨by simp, rfl⟩
theorem compare_any (a b : ByteArray) (w : World) : Calls Tryz.prog 40 #[.string a, .string b] w fun e w' => e = .returned (.int .i64 (cmpS (tl a) (tl b))) ∧ w = w' := by
  have N : Hid (∀ s W, Calls Tryz.prog 96 #[.string s] W fun e w' => e = .returned (.bool false) ∧ W = w') := Lib.hid isnan_any
  have TA : a.toList = tl a := Lib.toList_data a
  have TB : b.toList = tl b := Lib.toList_data b
  by_cases h1 : tl a < tl b
  · have q1 : Op.bytesLess a.toList b.toList = true := by rw [bytesLess_eq, TA, TB]; exact decide_eq_true h1
    have F : Hid (cmpS (tl a) (tl b) = -1) := Lib.hid (by unfold cmpS; rw [if_pos h1])
    clear h1 TA TB
    go_enter Tryz.func40, Tryz.ntmps40
    go_wp2_with (go_at_call 96; (with_reducible refine (N.out _ _).mono ?_); rintro e w1 ⟨rfl, rfl⟩)
    go_ret
    exact ⟨by rw [F.out]; rfl, rfl⟩
  · have q1 : Op.bytesLess a.toList b.toList = false := by rw [bytesLess_eq, TA, TB]; exact decide_eq_false h1
    by_cases h2 : tl a = tl b
    · have q2 : (a.toList == b.toList) = true := by rw [TA, TB, h2]; simp
      have q3 : a.toList = b.toList := by rw [TA, TB, h2]
      have q4 : Op.bytesLess b.toList b.toList = false := by rw [bytesLess_eq]; exact decide_eq_false (List.lt_irrefl _)
      have F : Hid (cmpS (tl a) (tl b) = 0) := Lib.hid (by unfold cmpS; rw [if_neg h1, if_pos h2])
      clear h1 h2 TA TB
      go_enter Tryz.func40, Tryz.ntmps40
      go_wp2_with (go_at_call 96; (with_reducible refine (N.out _ _).mono ?_); rintro e w1 ⟨rfl, rfl⟩)
      go_ret
      exact ⟨by rw [F.out]; rfl, rfl⟩
    · have q2 : (a.toList == b.toList) = false := by rw [TA, TB]; simpa using h2
      have q3 : ¬ a.toList = b.toList := by rw [TA, TB]; exact h2
      have F : Hid (cmpS (tl a) (tl b) = 1) := Lib.hid (by unfold cmpS; rw [if_neg h1, if_neg h2])
      clear h1 h2 TA TB
      go_enter Tryz.func40, Tryz.ntmps40
      go_wp2_with (go_at_call 96; (with_reducible refine (N.out _ _).mono ?_); rintro e w1 ⟨rfl, rfl⟩)
      go_ret
      exact ⟨by rw [F.out]; rfl, rfl⟩
def cf (f g : Fl) : Int := cmpS (tl f.p) (tl g.p)
theorem bypath_any (x y : Fl) (W : World) : Calls Tryz.prog 39 #[.agg #[.string x.p, .string x.d], .agg #[.string y.p, .string y.d]] W fun e w' => e = .returned (.int .i64 (cf x y)) ∧ ∃ q os', w' = grow (W.drewN q) os' := by
  have C : Hid (∀ W, Calls Tryz.prog 40 #[.string x.p, .string y.p] W fun e w' => e = .returned (.int .i64 (cf x y)) ∧ W = w') := Lib.hid (compare_any x.p y.p)
  generalize cf x y = r at *
  go_enter Tryz.func39, Tryz.ntmps39
  go_wp2_with (go_at_call 40; (with_reducible refine (C.out _).mono ?_); rintro e w' ⟨rfl, rfl⟩)
  go_ret
  exact ⟨rfl, 0, _, by rw [alloc_eq_grow, alloc_eq_grow, grow_grow]; rfl⟩
theorem lays (blk off size : Nat) (w : World) : CmpLays Tryz.prog 39 #[] enc 2 cf blk off size w := fun _ _ _ _ x y => bypath_any x y _
theorem lt_cf (f g : Fl) : ltOf cf f g = decide (tl f.p < tl g.p) := by
  show decide (cf f g < 0) = _
  unfold cf cmpS
  by_cases h : tl f.p < tl g.p
  · rw [if_pos h]; simp [h]
  · rw [if_neg h]
    by_cases h2 : tl f.p = tl g.p
    · rw [if_pos h2]; simp [h]
    · rw [if_neg h2]; simp [h]
theorem swo : SWO (ltOf cf) := ⟨fun x => by rw [lt_cf]; exact decide_eq_false (List.lt_irrefl _), fun x y z h1 h2 => by
  rw [lt_cf] at *
  exact decide_eq_true (List.lt_trans (of_decide_eq_true h1) (of_decide_eq_true h2)), fun x y z h1 h2 => by
  rw [lt_cf] at *
  exact decide_eq_false (List.not_lt.2 (List.le_trans (List.not_lt.1 (of_decide_eq_false h2)) (List.not_lt.1 (of_decide_eq_false h1))))⟩
theorem rowK {w : World} {blk off : Nat} {d : Array Fl} (hH : HoldsK enc 2 w blk off d) (hb : blk < w.heap.size) : RowK enc 2 w blk off d :=
  ⟨enc_len, fun x v hv => by
    simp only [enc, List.mem_cons, List.not_mem_nil, or_false] at hv
    rcases hv with rfl | rfl <;> rfl, hH, hb⟩
theorem insertion_any (blk off cap a b : Nat) (d0 d : Array Fl) (w0 w : World) (R : RowK enc 2 w0 blk off d0) (hs : d0.size = d.size) (S : SWK enc 2 w0 blk off d w) (hab : a ≤ b) (hb : b ≤ d.size) (hsz : d.size ≤ 1000000) :
    Calls Tryz.prog 188 #[.slice (some ⟨blk, off, none⟩) d.size cap, .int .i64 a, .int .i64 b, .func (.func 39) #[] #[]] w fun e w' => e = .returned (.tuple #[]) ∧ ∃ d', PermIn a b d d' ∧ SortedIn (ltOf cf) a b d' ∧ SWK enc 2 w0 blk off d' w' := by
  have h := AnyQ.insertionSortCmpFunc_w Tryz.l188 2 (fun w => by kernel_rfl) (fun w => by kernel_rfl) enc cf 39 #[] blk off cap a b d0 d w0 w (enters_of Tryz.func39 (by kernel_rfl) rfl) (lays _ _ _ _) R hs S swo hab hb (by omega)
  refine Calls.mono h ?_
  rintro e w' ⟨rfl, S'⟩
  obtain ⟨h1, h2⟩ := insertionSort_holds swo d a b hab hb
  exact ⟨rfl, _, h1, h2, S'⟩
theorem merge_any (blk off cap a m b : Nat) (d0 d : Array Fl) (w0 w : World) (R : RowK enc 2 w0 blk off d0) (hs : d0.size = d.size) (S : SWK enc 2 w0 blk off d w) (ham : a < m) (hmb : m < b) (hb : b ≤ d.size) (hsz : d.size ≤ 1000000) (hl : SortedIn (ltOf cf) a m d) (hr : SortedIn (ltOf cf) m b d) :
    Calls Tryz.prog 189 #[.slice (some ⟨blk, off, none⟩) d.size cap, .int .i64 a, .int .i64 m, .int .i64 b, .func (.func 39) #[] #[]] w fun e w' => e = .returned (.tuple #[]) ∧ ∃ d', PermIn a b d d' ∧ SortedIn (ltOf cf) a b d' ∧ SWK enc 2 w0 blk off d' w' :=
  symMerge_all 39 #[] cf swo blk off cap d0 w0 (enters_of Tryz.func39 (by kernel_rfl) rfl) (lays _ _ _ _) R (b - a + 1) a m b d w (by omega) hs S ham hmb hb hsz hl hr
theorem sorted_keep {a b x y : Nat} {d d' : Array Fl} (h : SortedIn (ltOf cf) a b d) (p : PermIn x y d d') (hb : b ≤ x) : SortedIn (ltOf cf) a b d' := fun i j h1 h2 h3 => by
  rw [p.2.1 i (.inl (by omega)), p.2.1 j (.inl (by omega))]
  exact h i j h1 h2 h3
end Go.Proofs.YtlndnpfjneeeeaaGreatDoor.Sy
/- SymW7, what a claim needs of it (prune.py). -/
namespace Go.Proofs.YtlndnpfjneeeeaaGreatDoor.Sy
open Go.Shelf Go.RowKit Go.Lib Go.Sort
set_option linter.unusedVariables false
structure Pass (d : Array Fl) (k : Nat) (dk : Array Fl) : Prop where
  perm : PermIn 0 d.size d dk
  two : k = 1 → SortedIn (ltOf cf) 0 20 dk
set_option maxHeartbeats 8000000 in
set_option maxRecDepth 1000000 in
theorem stable_any (blk off cap : Nat) (d : Array Fl) (w : World) (R : RowK enc 2 w blk off d) (h32 : d.size ≤ 32) :
    Calls Tryz.prog 95 #[.slice (some ⟨blk, off, none⟩) d.size cap, .int .i64 d.size, .func (.func 39) #[] #[]] w fun e w' => e = .returned (.tuple #[]) ∧ ∃ d', PermIn 0 d.size d d' ∧ SortedIn (ltOf cf) 0 d.size d' ∧ SWK enc 2 w blk off d' w' := by
  have S0 : Hid (SWK enc 2 w blk off d w) := Lib.hid (SWK.start R.hH)
  have INS := Lib.hid (fun a b (dk : Array Fl) wk (hs : d.size = dk.size) (S : SWK enc 2 w blk off dk wk) (hab : a ≤ b) (hb : b ≤ dk.size) (hsz : dk.size ≤ 1000000) => insertion_any blk off cap a b d dk w wk R hs S hab hb hsz)
  have MRG := Lib.hid (fun a m b (dk : Array Fl) wk (hs : d.size = dk.size) (S : SWK enc 2 w blk off dk wk) (h1 : a < m) (h2 : m < b) (h3 : b ≤ dk.size) (h4 : dk.size ≤ 1000000) (h5 : SortedIn (ltOf cf) a m dk) (h6 : SortedIn (ltOf cf) m b dk) => merge_any blk off cap a m b d dk w wk R hs S h1 h2 h3 h4 h5 h6)
  obtain ⟨n, hn⟩ : ∃ n, n = d.size := ⟨_, rfl⟩
  have HN := Lib.hid hn
  go_enter Tryz.func95, Tryz.ntmps95
  go_wp2_with (fail)
  have hdb : (d.size : Int) ≤ 32 := by omega
  go_loopg [7, 8] 2 (fun kx s7 s8 wr => ∃ (k x y : Nat) (dk : Array Fl), s7 = .int .i64 (x : Int) ∧ s8 = .int .i64 (y : Int) ∧ Hid (k ≤ 1 ∧ 1 - k < kx ∧ 20 * k ≤ d.size ∧ x = 20 * k ∧ y = 20 * k + 20) ∧ Hid (Pass d k dk) ∧ Hid (SWK enc 2 w blk off dk wr))
  case atStart => exact ⟨0, 0, 20, d, rfl, rfl, Lib.hid (by omega), Lib.hid ⟨permIn_refl _ _ _, fun h => by omega⟩, S0⟩
  case round =>
    clear S0
    obtain ⟨k, x, y, dk, rfl, rfl, GE, PA, S1⟩ := hrel
    have hds : dk.size = d.size := PA.out.perm.1
    have hy40 : (y : Int) ≤ 40 := by have := GE.out; omega
    by_cases hlt : y ≤ d.size
    · have q2 : (y : Int) ≤ (d.size : Int) := by omega
      have C := Lib.hid (hds ▸ INS.out x y dk wr hds.symm S1.out (by have := GE.out; omega) (by omega) (by omega))
      go_wp2_with (go_at_call 188; (with_reducible refine (C.out).mono ?_); rintro e9 w2 ⟨rfl, d2, P2, O2, S2⟩)
      go_roundg 1
      case measure => have := GE.out; omega
      case rel => exact ⟨1, y, y + 20, d2, rfl, by go_num, Lib.hid (by have := GE.out; omega), Lib.hid ⟨Sy.pand PA.out.perm (pmono P2 (Nat.zero_le _) hlt (by omega)), fun _ => by
        have h := GE.out
        obtain rfl : y = 20 := by omega
        obtain rfl : x = 0 := by omega
        exact O2⟩, Lib.hid S2⟩
    · have q2 : ¬ (y : Int) ≤ (d.size : Int) := by omega
      have C := Lib.hid (hds ▸ INS.out x d.size dk wr hds.symm S1.out (by have := GE.out; omega) (by omega) (by omega))
      go_wp2_with (go_at_call 188; (with_reducible refine (C.out).mono ?_); rintro e9 w2 ⟨rfl, d2, P2, O2, S2⟩)
      have P3 : Hid (PermIn 0 d.size d d2) := Lib.hid (Sy.pand PA.out.perm (pmono P2 (Nat.zero_le _) (Nat.le_refl _) (by omega)))
      have O3 : Hid (k = 1 → SortedIn (ltOf cf) 0 20 d2) := Lib.hid fun hk => by
        have h := GE.out
        exact sorted_keep (PA.out.two hk) P2 (by omega)
      have O2 := Lib.hid O2
      have S2 := Lib.hid S2
      have hd2 : d2.size = d.size := P3.out.1
      clear P2 C S1 PA INS hds
      go_loopg [6, 7, 8, 9] 2 (fun kx s6 s7 s8 s9 wr => ∃ (z : Nat) (dk : Array Fl), s6 = .int .i64 (z : Int) ∧ Hid ((z = 20 ∧ dk = d2 ∧ 1 < kx) ∨ (z = 40 ∧ PermIn 0 d.size d dk ∧ SortedIn (ltOf cf) 0 d.size dk)) ∧ Hid (SWK enc 2 w blk off dk wr))
      case atStart => exact ⟨20, d2, rfl, Lib.hid (.inl ⟨rfl, rfl, by omega⟩), S2⟩
      case round =>
        clear S2
        obtain ⟨z, dk, rfl, HZ, S3⟩ := hrel
        have hz40 : (z : Int) ≤ 40 := by have := HZ.out; omega
        have hz20 : (20 : Int) ≤ (z : Int) := by have := HZ.out; omega
        by_cases hzn : z < d.size
        · have q3 : (z : Int) < (d.size : Int) := by omega
          have hz2 : z = 20 ∧ dk = d2 := by
            rcases HZ.out with h | h
            · exact ⟨h.1, h.2.1⟩
            · omega
          obtain ⟨rfl, rfl⟩ := hz2
          have K1 : Hid (1 < gk) := Lib.hid (by
            rcases HZ.out with h | h
            · exact h.2.2
            · omega)
          have GX := Lib.hid (show k = 1 ∧ x = 20 by have := GE.out; omega)
          have SO : Hid (SortedIn (ltOf cf) 20 d.size dk) := Lib.hid (by
            have h := O2.out
            rw [GX.out.2] at h
            exact h)
          have O20 := Lib.hid (O3.out GX.out.1)
          have q4 : ¬ (40 : Int) ≤ (d.size : Int) := by omega
          have hzn' : (20 : Int) < (d.size : Int) := by omega
          clear O3 hn
          go_wp2_with (fail)
          go_loopg [7, 8] 1 (fun kx s7 s8 wx => s7 = .int .i64 0 ∧ s8 = .int .i64 40 ∧ Hid (SWK enc 2 w blk off dk wx))
          case atStart => exact ⟨rfl, rfl, S3⟩
          case round =>
            clear S3
            obtain ⟨rfl, rfl, S3⟩ := hrel
            have C : Hid (Calls Tryz.prog 189 #[.slice (some ⟨blk, off, none⟩) d.size cap, .int .i64 0, .int .i64 20, .int .i64 d.size, .func (.func 39) #[] #[]] wr fun e w' => e = .returned (.tuple #[]) ∧ ∃ d', PermIn 0 d.size dk d' ∧ SortedIn (ltOf cf) 0 d.size d' ∧ SWK enc 2 w blk off d' w') := Lib.hid (by
              have h := MRG.out 0 20 d.size dk wr hd2.symm S3.out (by omega) (by omega) (by omega) (by omega) O20.out SO.out
              have z0 : ((0 : Nat) : Int) = 0 := rfl
              have z1 : ((20 : Nat) : Int) = 20 := rfl
              rw [hd2, z0, z1] at h
              exact h)
            clear MRG
            go_wp2_with (go_at_call 189; (with_reducible refine (C.out).mono ?_); rintro e9 w2 ⟨rfl, d3, P4, O4, S4⟩)
            go_roundg 1
            case measure => have := K1.out; omega
            case rel => exact ⟨40, d3, by first | rfl | go_num, Lib.hid (.inr ⟨rfl, Sy.pand P3.out P4, O4⟩), Lib.hid S4⟩
        · have q3 : ¬ (z : Int) < (d.size : Int) := by omega
          have FIN : Hid (PermIn 0 d.size d dk ∧ SortedIn (ltOf cf) 0 d.size dk) := Lib.hid (by
            rcases HZ.out with ⟨h1, rfl, h3⟩ | ⟨h1, h2, h3⟩
            · have h := GE.out
              refine ⟨P3.out, ?_⟩
              rcases Nat.lt_or_ge k 1 with hk | hk
              · obtain rfl : x = 0 := by omega
                exact O2.out
              · have := O3.out (by omega)
                obtain h20 : d.size = 20 := by omega
                rw [h20]; exact this
            · exact ⟨h2, h3⟩)
          go_wp2_with (fail)
          go_end0
          exact ⟨rfl, dk, FIN.out.1, FIN.out.2, S3.out⟩
theorem sortStable_any (blk off cap : Nat) (d : Array Fl) (w : World) (R : RowK enc 2 w blk off d) (h32 : d.size ≤ 32) :
    Calls Tryz.prog 38 #[.slice (some ⟨blk, off, none⟩) d.size cap, .func (.func 39) #[] #[]] w fun e w' => e = .returned (.tuple #[]) ∧ ∃ d', PermIn 0 d.size d d' ∧ SortedIn (ltOf cf) 0 d.size d' ∧ SWK enc 2 w blk off d' w' := by
  have C := Lib.hid (stable_any blk off cap d w R h32)
  clear R
  go_enter Tryz.func38, Tryz.ntmps38
  go_wp2_with (go_at_call 95; (with_reducible refine (C.out).mono ?_); rintro e9 w2 ⟨rfl, d3, P4, O4, S4⟩)
  go_end0
  exact ⟨rfl, d3, P4, O4, S4⟩
theorem stable_none (cap : Nat) (w : World) :
    Calls Tryz.prog 95 #[.slice none 0 cap, .int .i64 0, .func (.func 39) #[] #[]] w fun e w' => e = .returned (.tuple #[]) ∧ Below w.heap.size w w' := by
  have C : Hid (∀ W, Calls Tryz.prog 188 #[.slice none 0 cap, .int .i64 0, .int .i64 0, .func (.func 39) #[] #[]] W fun e w' => e = .returned (.tuple #[]) ∧ Below W.heap.size W w') := Lib.hid fun W => by
    refine Calls.mono (AnyF.insertionSortCmpFunc_none Tryz.l188 none cap (.func (.func 39) #[] #[]) W) ?_
    rintro e w' ⟨he, rfl⟩
    exact ⟨he, Below.refl _ _⟩
  go_enter Tryz.func95, Tryz.ntmps95
  go_wp2_with (fail)
  go_loopg [7, 8] 1 (fun kx s7 s8 wx => s7 = .int .i64 0 ∧ s8 = .int .i64 20 ∧ w = wx)
  case atStart => exact ⟨rfl, rfl, rfl⟩
  case round =>
    obtain ⟨rfl, rfl, rfl⟩ := hrel
    go_wp2_with (go_at_call 188; (with_reducible refine (C.out _).mono ?_); rintro e9 w2 ⟨rfl, hb⟩)
    go_loopg [6, 7, 8, 9] 1 (fun kx s6 s7 s8 s9 wx => s6 = .int .i64 20 ∧ Below w.heap.size w wx)
    case atStart => exact ⟨rfl, hb⟩
    case round =>
      obtain ⟨rfl, hb2⟩ := hrel
      go_wp2_with (fail)
      go_end0
      exact ⟨rfl, hb2⟩
theorem sortStable_none (cap : Nat) (w : World) :
    Calls Tryz.prog 38 #[.slice none 0 cap, .func (.func 39) #[] #[]] w fun e w' => e = .returned (.tuple #[]) ∧ Below w.heap.size w w' := by
  have C := Lib.hid (stable_none cap w)
  go_enter Tryz.func38, Tryz.ntmps38
  go_wp2_with (go_at_call 95; (with_reducible refine (C.out).mono ?_); rintro e9 w2 ⟨rfl, hb⟩)
  go_end0
  exact ⟨rfl, hb⟩
end Go.Proofs.YtlndnpfjneeeeaaGreatDoor.Sy
/- SymW8, what a claim needs of it (prune.py). -/
namespace Go.Proofs.YtlndnpfjneeeeaaGreatDoor.Sy
open Go.Shelf Go.RowKit Go.Lib Go.Sort Fs
set_option linter.unusedVariables false
set_option maxRecDepth 100000
theorem flat_fc (l : List Fl) : flatK enc 2 l.toArray = (fc l).toArray := by
  apply Array.ext
  · simp [fc_len]
  · intro t h1 h2
    have h3 : t < l.length * 2 := by simpa using h1
    have hd : t / 2 < l.length := by omega
    have e1 : (flatK enc 2 l.toArray)[t] = (enc l.toArray[t / 2]!)[t % 2]! := by
      rw [← get_flatK enc 2 l.toArray t (by simpa using h3), getElem!_pos _ t h1]
    rw [e1]
    have e2 : l.toArray[t / 2]! = l[t / 2] := by simp [hd]
    rw [e2]
    obtain ⟨c0, c1⟩ := fc_at hd
    have h4 : t < (fc l).length := by rw [fc_len]; exact h3
    rcases Nat.mod_two_eq_zero_or_one t with h | h
    · have ht : t / 2 * 2 = t := by omega
      rw [ht, List.getElem?_eq_getElem h4] at c0
      rw [h]
      simpa [enc] using (Option.some.inj c0).symm
    · have ht : t / 2 * 2 + 1 = t := by omega
      rw [ht, List.getElem?_eq_getElem h4] at c1
      rw [h]
      simpa [enc] using (Option.some.inj c1).symm
theorem perm_all {d d' : Array Fl} (h : PermIn 0 d.size d d') : d'.toList.Perm d.toList := by
  have h1 := h.2.2
  have e1 : d.extract 0 d.size = d := by simp
  have e2 : d'.extract 0 d.size = d' := by rw [← h.1]; simp
  rw [e1, e2] at h1
  exact h1
theorem rise_all {d : Array Fl} (h : SortedIn (ltOf cf) 0 d.size d) : Rise d.toList := by
  unfold Rise
  rw [List.pairwise_iff_getElem]
  intro i j hi hj hij
  have hi' : i < d.size := by simpa using hi
  have hj' : j < d.size := by simpa using hj
  have h1 := h i j (Nat.zero_le _) hij hj'
  rw [lt_cf, getElem!_pos d i hi', getElem!_pos d j hj'] at h1
  have h2 := of_decide_eq_false h1
  rw [Array.getElem_toList, Array.getElem_toList]
  exact List.not_lt.1 h2
theorem sort_files (A : Option Addr) (c B : Nat) (l : List Fl) (w : World) (ho : w.ownsRow B 75 2 (.slice A l.length c) l.length (fc l)) (h32 : l.length ≤ 32) (hap : Apart l) :
    Calls Tryz.prog 38 #[.slice A l.length c, .func (.func 39) #[] #[]] w fun e w' => e = .returned (.tuple #[]) ∧ w'.ownsRow B 75 2 (.slice A l.length c) l.length (fc (sortP l)) ∧ (∃ g, (g = none ∨ g = (Value.slice A l.length c).ownBlock) ∧ w.grownBy w' g) := by
  rcases ho.2 with ⟨hv, hn⟩ | ⟨g, cap, cur, hv, hg, hb, h1, h2, h3, h4⟩
  · injection hv with e1 e2 e3
    subst e1
    have e2 : l = [] := List.eq_nil_of_length_eq_zero hn
    subst e2 e3
    refine (sortStable_none 0 w).mono ?_
    rintro e w' ⟨rfl, hbw⟩
    have e0 : sortP ([] : List Fl) = [] := List.eq_nil_of_length_eq_zero ((sortP_perm _).length_eq)
    exact ⟨rfl, by rw [e0]; exact World.ownsRow_nil _ _ _ _, none, .inl rfl, ⟨hbw.os, hbw.tape, hbw.output, hbw.size, fun b h _ => hbw.block b h⟩⟩
  · injection hv with e1 e2 e3
    subst e1 e3
    have hgl : g < w.heap.size := Lg.lt_heap hb
    have hH : HoldsK enc 2 w g 0 l.toArray := by
      show Holds id w g 0 (flatK enc 2 l.toArray)
      rw [flat_fc]
      exact holds_gen id hb (by rw [fc_len, List.map_id]; exact h4)
    have S := sortStable_any g 0 c l.toArray w (rowK hH hgl) (by simpa using h32)
    simp only [List.size_toArray] at S
    refine S.mono ?_
    rintro e w' ⟨rfl, d', P, O, n, os, rfl⟩
    have hsz : d'.size = l.length := by have := P.1; simpa using this
    have P' : PermIn 0 l.toArray.size l.toArray d' := by simpa using P
    have O' : SortedIn (ltOf cf) 0 d'.size d' := by rw [hsz]; exact O
    have hs : d'.toList = sortP l := rise_one hap (by simpa using perm_all P') (sortP_perm l) (rise_all O') (sortP_rise l)
    have hd : flatK enc 2 d' = (fc (sortP l)).toArray := by rw [← hs, ← flat_fc]
    have hlen : (sortP l).length = l.length := (sortP_perm l).length_eq
    refine ⟨rfl, ?_, some g, .inr rfl, ?_⟩
    · show (grow (putRow id (Sort.ahead w n) g 0 (flatK enc 2 d')) os).ownsRow _ _ _ _ _ _
      rw [hd]
      have hc2 : (fc (sortP l)).length ≤ cur.size := by rw [fc_len, hlen, h3]; omega
      refine ⟨by rw [fc_len, hlen], .inr ⟨g, c, _, rfl, hg, heap_gen id _ hb, h1, h2, by simp [putCells, h3], ?_⟩⟩
      have := take_gen id cur (fc (sortP l)) hc2
      rw [fc_len, hlen, List.map_id] at this
      exact this
    · exact grown_gen id (flatK enc 2 d')
end Go.Proofs.YtlndnpfjneeeeaaGreatDoor.Sy
