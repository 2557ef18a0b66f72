/- Joined by mkmerged.py: SymP, SymK, SyLays, Rk. -/
import Derived.Sort.LotA
import Derived.Test.YtlndnpfjneeeeaaGreatDoorMh03
import Derived.Shelf.SlSortCmp.PdqK
import Derived.Ground.SlsfProg
import Derived.Test.YtlndnpfjneeeeaaGreatDoorProg
import Derived.Test.YtlndnpfjneeeeaaGreatDoorRows
import Derived.WalkKit
import Derived.ProofKit
import Derived.OpenShut
import Derived.ShutString
import Derived.Below
import Derived.ChangeSame
import Derived.Deep.Slices
import Derived.Deep.Fields
import Derived.ReadAgain
import Derived.ChangeBears
import Derived.SliceStrings
import Derived.ChangeMaps5
/- SymP, what a claim needs of it (prune.py). -/
namespace Go.Proofs.YtlndnpfjneeeeaaGreatDoor.Sy
open Go.Sort
variable {α : Type} [Inhabited α] {lt : α → α → Bool}
structure Rot (a m b : Nat) (d d' : Array α) : Prop where
  perm : PermIn a b d d'
  left : ∀ k, k < b - m → d'[a + k]! = d[m + k]!
  right : ∀ k, k < m - a → d'[a + (b - m) + k]! = d[a + k]!
theorem Rot.same_left {a b : Nat} {d : Array α} : Rot a a b d d := ⟨permIn_refl _ _ _, fun _ _ => rfl, fun k h => by omega⟩
theorem Rot.same_right {a b : Nat} {d : Array α} : Rot a b b d d := ⟨permIn_refl _ _ _, fun k h => by omega, fun k _ => by simp⟩
theorem pall {a b : Nat} {d d' : Array α} (h : PermIn a b d d') (hb : b ≤ d.size) (p : α → Prop) (hp : ∀ i, a ≤ i → i < b → p d[i]!) : ∀ i, a ≤ i → i < b → p d'[i]! := permIn_all d d' a b p hb h hp
theorem pmono {a b a' b' : Nat} {d d' : Array α} (h : PermIn a b d d') (h1 : a' ≤ a) (h2 : b ≤ b') (h3 : b' ≤ d.size) : PermIn a' b' d d' := permIn_mono d d' a b a' b' h1 h2 h3 h
theorem pand {a b : Nat} {d d' d'' : Array α} (h : PermIn a b d d') (h2 : PermIn a b d' d'') : PermIn a b d d'' := permIn_trans _ _ _ _ _ h h2
structure Swr (a b n : Nat) (d d' : Array α) : Prop where
  size : d'.size = d.size
  left : ∀ k, k < n → d'[a + k]! = d[b + k]!
  right : ∀ k, k < n → d'[b + k]! = d[a + k]!
  out : ∀ i, (i < a ∨ a + n ≤ i) → (i < b ∨ b + n ≤ i) → d'[i]! = d[i]!
  perm : ∀ lo hi, lo ≤ a → a + n ≤ hi → lo ≤ b → b + n ≤ hi → hi ≤ d.size → PermIn lo hi d d'
theorem Swr.zero (a b : Nat) (d : Array α) : Swr a b 0 d d := ⟨rfl, fun k h => by omega, fun k h => by omega, fun _ _ _ => rfl, fun _ _ _ _ _ _ _ => permIn_refl _ _ _⟩
theorem Swr.step {a b n : Nat} {d d' : Array α} (h : Swr a b n d d') (hab : a + n < b) (hb : b + n < d.size) : Swr a b (n + 1) d (swp d' (a + n) (b + n)) := by
  have hs := h.size
  have ha : d'[a + n]! = d[a + n]! := h.out _ (.inr (Nat.le_refl _)) (.inl (by omega))
  have hbn : d'[b + n]! = d[b + n]! := h.out _ (.inr (by omega)) (.inr (Nat.le_refl _))
  refine ⟨(size_swp _ _ _).trans hs, fun k hk => ?_, fun k hk => ?_, fun i h1 h2 => ?_, fun lo hi h1 h2 h3 h4 h5 => ?_⟩
  · rcases Nat.lt_or_eq_of_le (Nat.le_of_lt_succ hk) with h1 | rfl
    · rw [swp_other _ _ _ _ (by omega) (by omega)]; exact h.left k h1
    · rw [swp_left _ _ _ (by omega) (by omega)]; exact hbn
  · rcases Nat.lt_or_eq_of_le (Nat.le_of_lt_succ hk) with h1 | rfl
    · rw [swp_other _ _ _ _ (by omega) (by omega)]; exact h.right k h1
    · rw [swp_right _ _ _ (by omega)]; exact ha
  · rw [swp_other _ _ _ _ (by omega) (by omega)]
    exact h.out i (by omega) (by omega)
  · exact pand (h.perm lo hi h1 (by omega) h3 (by omega) h5) (swp_permIn d' lo hi _ _ (by omega) (by omega) (by omega) (by omega) (by omega))
theorem Rot.left_step {m i j : Nat} {d d1 d' : Array α} (hij : j < i) (him : i ≤ m) (hb : m + j ≤ d.size) (hs : Swr (m - i) m j d d1) (h : Rot (m - (i - j)) m (m + j) d1 d') : Rot (m - i) m (m + j) d d' := by
  have hsz := hs.size
  have hp1 : PermIn (m - i) (m + j) d d1 := hs.perm _ _ (Nat.le_refl _) (by omega) (by omega) (by omega) hb
  have hp2 : PermIn (m - i) (m + j) d1 d' := pmono h.perm (by omega) (Nat.le_refl _) (by omega)
  refine ⟨pand hp1 hp2, fun k hk => ?_, fun k hk => ?_⟩
  · rw [h.perm.2.1 _ (.inl (by omega))]; exact hs.left k (by omega)
  · by_cases hkj : k < j
    · have e := h.left k (by omega)
      have e1 : m - (i - j) + k = m - i + (m + j - m) + k := by omega
      rw [e1] at e
      rw [e]
      exact hs.right k hkj
    · have e := h.right (k - j) (by omega)
      have e1 : m - (i - j) + (m + j - m) + (k - j) = m - i + (m + j - m) + k := by omega
      have e2 : m - (i - j) + (k - j) = m - i + k := by omega
      rw [e1, e2] at e
      rw [e]
      exact hs.out _ (.inr (by omega)) (.inl (by omega))
theorem Rot.right_step {m i j : Nat} {d d1 d' : Array α} (hij : i < j) (him : i ≤ m) (hb : m + j ≤ d.size) (hs : Swr (m - i) (m + j - i) i d d1) (h : Rot (m - i) m (m + (j - i)) d1 d') : Rot (m - i) m (m + j) d d' := by
  have hsz := hs.size
  have hp1 : PermIn (m - i) (m + j) d d1 := hs.perm _ _ (Nat.le_refl _) (by omega) (by omega) (by omega) hb
  have hp2 : PermIn (m - i) (m + j) d1 d' := pmono h.perm (Nat.le_refl _) (by omega) (by omega)
  refine ⟨pand hp1 hp2, fun k hk => ?_, fun k hk => ?_⟩
  · by_cases hkj : k < j - i
    · rw [h.left k (by omega)]
      exact hs.out _ (.inr (by omega)) (.inl (by omega))
    · have e := h.right (k - (j - i)) (by omega)
      have e1 : m - i + (m + (j - i) - m) + (k - (j - i)) = m - i + k := by omega
      rw [e1] at e
      rw [e, hs.left _ (by omega)]
      congr 1; omega
  · rw [h.perm.2.1 _ (.inr (by omega))]
    have e := hs.right k (by omega)
    have e1 : m + j - i + k = m - i + (m + j - m) + k := by omega
    rw [e1] at e
    exact e
theorem Rot.last {m i : Nat} {d d' : Array α} (him : i ≤ m) (hb : m + i ≤ d.size) (hs : Swr (m - i) m i d d') : Rot (m - i) m (m + i) d d' := by
  refine ⟨hs.perm _ _ (Nat.le_refl _) (by omega) (by omega) (by omega) hb, fun k hk => hs.left k (by omega), fun k hk => ?_⟩
  have e := hs.right k (by omega)
  have e1 : m - i + (m + i - m) + k = m + k := by omega
  rw [e1]; exact e
theorem Rot.up {a k : Nat} {d d' : Array α} (h : Rot a (a + 1) (k + 1) d d') (hk : a ≤ k) (hb : k + 1 < d.size) : Rot a (a + 1) (k + 2) d (swp d' k (k + 1)) := by
  have hs := h.perm.1
  have e0 : d'[k]! = d[a]! := by
    have e := h.right 0 (by omega)
    have e1 : a + (k + 1 - (a + 1)) + 0 = k := by omega
    rw [e1] at e; exact e
  have e2 : d'[k + 1]! = d[k + 1]! := h.perm.2.1 _ (.inr (Nat.le_refl _))
  refine ⟨pand (pmono h.perm (Nat.le_refl _) (by omega) (by omega)) (swp_permIn d' a (k + 2) _ _ (by omega) (by omega) (by omega) (by omega) (by omega)), fun q hq => ?_, fun q hq => ?_⟩
  · by_cases hqk : a + q = k
    · rw [hqk, swp_left _ _ _ (by omega) (by omega), e2]
      congr 1; omega
    · rw [swp_other _ _ _ _ (by omega) (by omega)]
      exact h.left q (by omega)
  · obtain rfl : q = 0 := by omega
    have e1 : a + (k + 2 - (a + 1)) + 0 = k + 1 := by omega
    rw [e1, swp_right _ _ _ (by omega)]
    exact e0
theorem Rot.down {m k : Nat} {d d' : Array α} (h : Rot (k + 1) m (m + 1) d d') (hk : k + 1 ≤ m) (hb : m < d.size) : Rot k m (m + 1) d (swp d' (k + 1) k) := by
  have hs := h.perm.1
  have e0 : d'[k + 1]! = d[m]! := h.left 0 (by omega)
  have e2 : d'[k]! = d[k]! := h.perm.2.1 _ (.inl (by omega))
  refine ⟨pand (pmono h.perm (by omega) (Nat.le_refl _) (by omega)) (swp_permIn d' k (m + 1) _ _ (by omega) (by omega) (by omega) (by omega) (by omega)), fun q hq => ?_, fun q hq => ?_⟩
  · obtain rfl : q = 0 := by omega
    show (swp d' (k + 1) k)[k]! = d[m]!
    rw [swp_right _ _ _ (by omega)]
    exact e0
  · by_cases hq0 : q = 0
    · subst hq0
      have e1 : k + (m + 1 - m) + 0 = k + 1 := by omega
      rw [e1, swp_left _ _ _ (by omega) (by omega)]
      exact e2
    · rw [swp_other _ _ _ _ (by omega) (by omega)]
      have e := h.right (q - 1) (by omega)
      have e1 : k + 1 + (m + 1 - m) + (q - 1) = k + (m + 1 - m) + q := by omega
      have e3 : k + 1 + (q - 1) = k + q := by omega
      rw [e1, e3] at e
      exact e
theorem sle (hO : SWO lt) {a b : Nat} {d : Array α} (h : SortedIn lt a b d) {i j : Nat} (h1 : a ≤ i) (h2 : i ≤ j) (h3 : j < b) : lt d[j]! d[i]! = false := by
  rcases Nat.lt_or_eq_of_le h2 with h4 | rfl
  · exact h i j h1 h4 h3
  · exact hO.irrefl _
omit [Inhabited α] in
theorem lt_not (hO : SWO lt) {x y : α} (h : lt x y = true) : lt y x = false := by
  cases h2 : lt y x with
  | false => rfl
  | true => have := hO.trans _ _ _ h h2; rw [hO.irrefl] at this; exact absurd this (by simp)
theorem bs_up (hO : SWO lt) {a m b : Nat} {d : Array α} (hl : SortedIn lt a m d) (hr : SortedIn lt m b d) {c c' q q' : Nat} (h1 : a ≤ c') (h2 : c' ≤ c) (h3 : c < m) (h4 : m ≤ q) (h5 : q ≤ q') (h6 : q' < b) (h : lt d[q]! d[c]! = false) : lt d[q']! d[c']! = false :=
  hO.ntrans _ _ _ (hO.ntrans _ _ _ (sle hO hr h4 h5 h6) h) (sle hO hl h1 h2 h3)
theorem bs_down (hO : SWO lt) {a m b : Nat} {d : Array α} (hl : SortedIn lt a m d) (hr : SortedIn lt m b d) {c c' q q' : Nat} (h1 : a ≤ c) (h2 : c ≤ c') (h3 : c' < m) (h4 : m ≤ q') (h5 : q' ≤ q) (h6 : q < b) (h : lt d[q]! d[c]! = true) : lt d[q']! d[c']! = true := by
  cases h7 : lt d[q']! d[c']! with
  | true => rfl
  | false => rw [bs_up hO hl hr h1 h2 h3 h4 h5 h6 h7] at h; exact absurd h (by simp)
theorem up_sorted (hO : SWO lt) {a i b : Nat} {d d' : Array α} (hr : SortedIn lt (a + 1) b d) (hai : a + 1 ≤ i) (hib : i ≤ b) (h : Rot a (a + 1) i d d') (hlo : ∀ c, a + 1 ≤ c → c < i → lt d[c]! d[a]! = true) (hhi : ∀ c, i ≤ c → c < b → lt d[c]! d[a]! = false) : SortedIn lt a b d' := by
  have f1 : ∀ x, a ≤ x → x + 1 < i → d'[x]! = d[x + 1]! := fun x h1 h2 => by
    have e := h.left (x - a) (by omega)
    have e1 : a + (x - a) = x := by omega
    have e2 : a + 1 + (x - a) = x + 1 := by omega
    rw [e1, e2] at e; exact e
  have f2 : d'[i - 1]! = d[a]! := by
    have e := h.right 0 (by omega)
    have e1 : a + (i - (a + 1)) + 0 = i - 1 := by omega
    rw [e1] at e; exact e
  have f3 : ∀ x, i ≤ x → d'[x]! = d[x]! := fun x h1 => h.perm.2.1 _ (.inr h1)
  intro x y h1 h2 h3
  by_cases hy : y + 1 < i
  · rw [f1 x h1 (by omega), f1 y (by omega) hy]; exact hr _ _ (by omega) (by omega) (by omega)
  by_cases hy1 : y + 1 = i
  · obtain rfl : y = i - 1 := by omega
    rw [f2, f1 x h1 (by omega)]; exact lt_not hO (hlo _ (by omega) (by omega))
  rw [f3 y (by omega)]
  by_cases hx : x + 1 < i
  · rw [f1 x h1 hx]; exact hr _ _ (by omega) (by omega) h3
  by_cases hx1 : x + 1 = i
  · obtain rfl : x = i - 1 := by omega
    rw [f2]; exact hhi _ (by omega) h3
  rw [f3 x (by omega)]; exact hr _ _ (by omega) h2 h3
theorem down_sorted (hO : SWO lt) {a i m : Nat} {d d' : Array α} (hl : SortedIn lt a m d) (hai : a ≤ i) (him : i ≤ m) (h : Rot i m (m + 1) d d') (hlo : ∀ c, a ≤ c → c < i → lt d[m]! d[c]! = false) (hhi : ∀ c, i ≤ c → c < m → lt d[m]! d[c]! = true) : SortedIn lt a (m + 1) d' := by
  have f1 : ∀ x, x < i → d'[x]! = d[x]! := fun x h1 => h.perm.2.1 _ (.inl h1)
  have f2 : d'[i]! = d[m]! := h.left 0 (by omega)
  have f3 : ∀ x, i < x → x ≤ m → d'[x]! = d[x - 1]! := fun x h1 h2 => by
    have e := h.right (x - 1 - i) (by omega)
    have e1 : i + (m + 1 - m) + (x - 1 - i) = x := by omega
    have e2 : i + (x - 1 - i) = x - 1 := by omega
    rw [e1, e2] at e; exact e
  intro x y h1 h2 h3
  by_cases hy : y < i
  · rw [f1 x (by omega), f1 y hy]; exact hl _ _ h1 h2 (by omega)
  by_cases hy1 : y = i
  · subst hy1
    rw [f2, f1 x h2]; exact hlo _ h1 h2
  rw [f3 y (by omega) (by omega)]
  by_cases hx : x < i
  · rw [f1 x hx]; exact hl _ _ h1 (by omega) (by omega)
  by_cases hx1 : x = i
  · subst hx1
    rw [f2]; exact lt_not hO (hhi _ (by omega) (by omega))
  rw [f3 x (by omega) (by omega)]; exact hl _ _ (by omega) (by omega) (by omega)
structure Split (lt : α → α → Bool) (a m b mid lo r s : Nat) (d : Array α) : Prop where
  lo_s : lo ≤ s
  s_r : s ≤ r
  yes : ∀ c, lo ≤ c → c < s → lt d[mid + m - 1 - c]! d[c]! = false
  no : ∀ c, s ≤ c → c < r → lt d[mid + m - 1 - c]! d[c]! = true
structure Halves (lt : α → α → Bool) (a s mid e b : Nat) (d : Array α) : Prop where
  s1 : SortedIn lt a s d
  s2 : SortedIn lt s mid d
  s3 : SortedIn lt mid e d
  s4 : SortedIn lt e b d
  le : ∀ x y, a ≤ x → x < mid → mid ≤ y → y < b → lt d[y]! d[x]! = false
theorem halves (hO : SWO lt) {a m b mid lo r s : Nat} {d d' : Array α} (ham : a < m) (hmb : m < b) (hmid : mid = (a + b) / 2) (hlo : (mid < m ∧ lo = mid + m - b ∧ r = mid) ∨ (m ≤ mid ∧ lo = a ∧ r = m)) (hl : SortedIn lt a m d) (hr : SortedIn lt m b d) (hS : Split lt a m b mid lo r s d) (h : Rot s m (mid + m - s) d d') : Halves lt a s mid (mid + m - s) b d' := by
  obtain ⟨hs1, hs2, hy, hn⟩ := hS
  have hm1 : mid < b := by omega
  have hm2 : a ≤ mid := by omega
  have hsm : s ≤ m ∧ s ≤ mid ∧ a ≤ s ∧ mid + m ≤ b + s := by omega
  have f1 : ∀ x, x < s → d'[x]! = d[x]! := fun x hx => h.perm.2.1 _ (.inl hx)
  have f2 : ∀ x, s ≤ x → x < mid → d'[x]! = d[x + m - s]! := fun x h1 h2 => by
    have e := h.left (x - s) (by omega)
    have e1 : s + (x - s) = x := by omega
    have e2 : m + (x - s) = x + m - s := by omega
    rw [e1, e2] at e; exact e
  have f3 : ∀ x, mid ≤ x → x < mid + m - s → d'[x]! = d[x + s - mid]! := fun x h1 h2 => by
    have e := h.right (x - mid) (by omega)
    have e1 : s + (mid + m - s - m) + (x - mid) = x := by omega
    have e2 : s + (x - mid) = x + s - mid := by omega
    rw [e1, e2] at e; exact e
  have f4 : ∀ x, mid + m - s ≤ x → d'[x]! = d[x]! := fun x hx => h.perm.2.1 _ (.inr hx)
  refine ⟨fun x y h1 h2 h3 => ?_, fun x y h1 h2 h3 => ?_, fun x y h1 h2 h3 => ?_, fun x y h1 h2 h3 => ?_, fun x y h1 h2 h3 h4 => ?_⟩
  · rw [f1 x (by omega), f1 y h3]; exact hl _ _ h1 h2 (by omega)
  · rw [f2 x h1 (by omega), f2 y (by omega) h3]; exact hr _ _ (by omega) (by omega) (by omega)
  · rw [f3 x h1 (by omega), f3 y (by omega) h3]; exact hl _ _ (by omega) (by omega) (by omega)
  · rw [f4 x h1, f4 y (by omega)]; exact hr _ _ (by omega) h2 h3
  · by_cases hx : x < s
    · rw [f1 x hx]
      by_cases hye : y < mid + m - s
      · rw [f3 y h3 hye]; exact sle hO hl h1 (by omega) (by omega)
      · rw [f4 y (by omega)]
        have hls : lo ≤ s - 1 := by omega
        have e := hy (s - 1) hls (by omega)
        exact bs_up hO hl hr h1 (by omega) (by omega) (by omega) (by omega) h4 e
    · rw [f2 x (by omega) h2]
      by_cases hye : y < mid + m - s
      · rw [f3 y h3 hye]
        have hsr : s < r := by omega
        have e := hn s (Nat.le_refl _) hsr
        exact lt_not hO (bs_down hO hl hr (by omega) (by omega) (by omega) (by omega) (by omega) (by omega) e)
      · rw [f4 y (by omega)]; exact sle hO hr (by omega) (by omega) h4
theorem halves_end {a s mid e b : Nat} {d d1 d2 : Array α} (h : Halves lt a s mid e b d) (h0 : a ≤ mid) (hb : mid ≤ b) (hsz : b ≤ d.size) (p1 : PermIn a mid d d1) (o1 : SortedIn lt a mid d1) (p2 : PermIn mid b d1 d2) (o2 : SortedIn lt mid b d2) : PermIn a b d d2 ∧ SortedIn lt a b d2 := by
  have hs1 := p1.1
  refine ⟨pand (pmono p1 (Nat.le_refl _) hb hsz) (pmono p2 h0 (Nat.le_refl _) (by omega)), fun x y h1 h2 h3 => ?_⟩
  by_cases hy : y < mid
  · rw [p2.2.1 x (.inl (by omega)), p2.2.1 y (.inl hy)]; exact o1 _ _ h1 h2 hy
  by_cases hx : x < mid
  · have k1 : ∀ j, mid ≤ j → j < b → ∀ i, a ≤ i → i < mid → lt d1[j]! d1[i]! = false := fun j hj1 hj2 => by
      refine pall p1 (by omega) (fun v => lt d1[j]! v = false) (fun i hi1 hi2 => ?_)
      show lt d1[j]! d[i]! = false
      rw [p1.2.1 j (.inr hj1)]; exact h.le _ _ hi1 hi2 hj1 hj2
    have k2 : ∀ i, a ≤ i → i < mid → ∀ j, mid ≤ j → j < b → lt d2[j]! d1[i]! = false := fun i hi1 hi2 => pall p2 (by omega) (fun v => lt v d1[i]! = false) (fun j hj1 hj2 => k1 j hj1 hj2 i hi1 hi2)
    rw [p2.2.1 x (.inl hx)]; exact k2 x h1 hx y (by omega) h3
  · exact o2 _ _ (by omega) h2 h3
end Go.Proofs.YtlndnpfjneeeeaaGreatDoor.Sy
/- SymK, what a claim needs of it (prune.py). -/
namespace Go.Proofs.YtlndnpfjneeeeaaGreatDoor
open Go
set_option linter.unusedVariables false
section
variable {P : Program} {ops : Array Oper} {Q : Exit → Act → World → Prop} {C : World → Prop}
def wpQ3 (P : Program) (ops : Array Oper) (C : World → Prop) (ex : Nat → Bool) (Lq : Act → Prop) : Nat → List Oper → Act → Prop
  | _, [], a => Lq a
  | k, o :: l, a => (ex k = true → ∃ v, Yields P ops o v a ∧ wpQ3 P ops C ex Lq (k + 1) l (a.put o.dst v)) ∧
      (ex k = false → if Region.wanted o (yielded ops a.tmps) then o.quiet P a C (wpQ3 P ops C ex Lq (k + 1) l) else wpQ3 P ops C ex Lq (k + 1) l (a.put o.dst undef))
theorem wpQ3_nil {ex : Nat → Bool} {Lq : Act → Prop} {k : Nat} {a : Act} (h : Lq a) : wpQ3 P ops C ex Lq k [] a := h
theorem wpQ3_ex {ex : Nat → Bool} {Lq : Act → Prop} {k : Nat} {o : Oper} {l : List Oper} {a : Act} {v : Value} (he : ex k = true) (hy : Yields P ops o v a) (h : wpQ3 P ops C ex Lq (k + 1) l (a.put o.dst v)) : wpQ3 P ops C ex Lq k (o :: l) a :=
  ⟨fun _ => ⟨v, hy, h⟩, fun h0 => (by rw [he] at h0; cases h0)⟩
theorem wpQ3_step {ex : Nat → Bool} {Lq : Act → Prop} {k : Nat} {o : Oper} {l : List Oper} {a : Act} (he : ex k = false)
    (h : ∀ K : Act → Prop, (∀ a, wpQ3 P ops C ex Lq (k + 1) l a → K a) → if Region.wanted o (yielded ops a.tmps) then o.quiet P a C K else K (a.put o.dst undef)) : wpQ3 P ops C ex Lq k (o :: l) a :=
  ⟨fun h0 => (by rw [he] at h0; cases h0), fun _ => h _ (fun _ h => h)⟩
def exB (ops : Array Oper) (ex : Nat → Bool) (n : Nat) : Bool :=
  Region.noSelect ops && decide (n < ops.size) && ((List.range n).all fun i => ex i || (((ops[i]?).map mover).getD false || leads ops n n i)) && Region.lexHead .any ops (ops.size - n) n 0 (Array.replicate ops.size false)
theorem wpAnyM_lex3 {n g : Nat} {ex : Nat → Bool} {Lq : Act → Prop} (hsel : Region.noSelect ops = true) (hh : ((List.range n).all fun i => ex i || (((ops[i]?).map mover).getD false || leads ops n n i)) = true)
    (hQ : ∀ c a d v w, Q (.panic c) (a.put d v) w → Q (.panic c) a w) (w0 : World) (hw0 : C w0)
    (hend : ∀ listed a, Region.seqB .any ops (g + 1) n listed = true → Lq a → wpAnyM P ops Q C n (g + 1) listed a) :
    ∀ (l : List Oper) (k : Nat) (listed : Array Bool) (a : Act), Closed ops listed → (∀ j, j < l.length → l[j]? = ops[k + j]?) → k + l.length = n →
    Region.lexHead .any ops (g + 1) l.length k listed = true → wpQ3 P ops C ex Lq k l a → wpAnyM P ops Q C n (l.length + (g + 1)) listed a
  | [], k, listed, a, _, _, hk, hB, h => by
    have : k = n := by simpa using hk
    subst this
    rw [show ([] : List Oper).length + (g + 1) = g + 1 by simp]
    exact hend listed a (by simpa [Region.lexHead] using hB) h
  | o :: l, k, listed, a, hcl, hl, hk, hB, h => by
    have h0 : ops[k]? = some o := by simpa using (hl 0 (by simp)).symm
    simp only [List.length_cons, Region.lexHead, Bool.and_eq_true] at hB
    obtain ⟨⟨hr, hf⟩, hB'⟩ := hB
    have hkn : k < n := by simp only [List.length_cons] at hk; omega
    have hr' : k ∈ Region.ready .any ops listed := by simpa using hr
    rw [show (o :: l).length + (g + 1) = (l.length + (g + 1)) + 1 by simp only [List.length_cons]; omega]
    have hnext : ∀ v, wpQ3 P ops C ex Lq (k + 1) l (a.put o.dst v) → wpAnyM P ops Q C n (l.length + (g + 1)) (listed.setIfInBounds k true) (a.put o.dst v) := fun v hK =>
      wpAnyM_lex3 hsel hh hQ w0 hw0 hend l (k + 1) _ _ (hcl.set hr') (fun j hj => by have := hl (j + 1) (by simp; omega); simpa [Nat.add_assoc, Nat.add_comm 1 j] using this) (by simp only [List.length_cons] at hk; omega) hB' hK
    cases he : ex k with
    | true =>
      obtain ⟨v, hy, hK⟩ := h.1 he
      exact wpAnyM_firstY h0 (Region.noSelect_spec hsel) (fun c a w => hQ c a _ _ w) (by omega) (l.length + (g + 1)) listed a (Region.free_spec h0 hf) hr' hy (hnext v hK)
    | false =>
      have hst : qOp P ops C k (wpQ3 P ops C ex Lq (k + 1) l) a := by unfold qOp; simp only [h0]; exact h.2 he
      obtain ⟨v, hy, hK⟩ := yieldsIn_of_qOp h0 hst
      have hk' : leads ops n n k = true ∨ mover o = true := by
        have := List.all_eq_true.1 hh k (List.mem_range.2 hkn)
        simpa [h0, he, or_comm] using this
      exact wpAnyM_first h0 (Region.noSelect_spec hsel) (fun c a w => hQ c a _ _ w) (by omega) w0 hw0 n hk' (l.length + (g + 1)) listed a hcl (Region.free_spec h0 hf) hr' hy (hnext v hK)
theorem wp_region_ex {id : Nat} {a : Act} {w : World} {l : List Oper} (n : Nat) (ex : Nat → Bool) (hm : P.follows .mixedOrders = true) (hB : exB l.toArray ex n = true)
    (hQ : ∀ c a d v w, Q (.panic c) (a.put d v) w → Q (.panic c) a w) (hC : C w.drew)
    (h : wpQ3 P l.toArray C ex (fun a' => ∀ w', C w' → wpList P l.toArray Q (l.drop n) a' w') 0 (l.take n) a) : (Code.region id l.toArray true).wp P Q a w := by
  simp only [exB, Bool.and_eq_true, decide_eq_true_eq] at hB
  obtain ⟨⟨⟨hsel, hn⟩, hh⟩, hlex⟩ := hB
  have hn' : n < l.length := by simpa using hn
  have htl : (l.take n).length = n := by simp; omega
  obtain ⟨g, hg⟩ : ∃ g, l.toArray.size - n = g + 1 := ⟨l.toArray.size - n - 1, by simp at hn ⊢; omega⟩
  rw [hg] at hlex
  refine wp_region_any hm (wpAny_of_M (C := C) (n := n) _ _ _ _ hC ?_)
  have H := wpAnyM_lex3 (P := P) (Q := Q) (C := C) (g := g) (ex := ex) hsel hh hQ _ hC (fun listed a' hs hL => ?_) (l.take n) 0 _ a (fun j oj _ hl => (by rw [getD_replicate_false] at hl; cases hl)) (fun j hj => by
    have hj' : j < n := by rw [htl] at hj; exact hj
    simp [hj']) (by simpa using htl) (by rw [htl]; exact hlex) h
  · rw [htl, show n + (g + 1) = l.toArray.size by omega] at H
    exact H
  · have hd : (l.drop n).length = g + 1 := by simp at hg ⊢; omega
    simp only [Region.seqB, Bool.and_eq_true, decide_eq_true_eq] at hs
    refine ⟨fun h0 => (by rw [hs.1] at h0; cases h0), fun i hi => ?_⟩
    rw [hs.1] at hi
    have hin : i = n := by simpa using hi
    subst hin
    rw [if_pos rfl]
    intro w1 hw1
    have hs' : Region.seqB .any l.toArray (l.drop i).length i listed = true := by
      rw [hd]; simp only [Region.seqB, Bool.and_eq_true, decide_eq_true_eq]; exact hs
    have := wpAny_of_seq (P := P) (md := .any) (Q' := Q) (l.drop i) i listed a' w1 (fun j => by simp [List.getElem?_drop]) hs' (hL w1 hw1)
    rw [hd] at this
    exact this.2 i (by rw [hs.1]; simp)
end
end Go.Proofs.YtlndnpfjneeeeaaGreatDoor
/- SyLays, what a claim needs of it (prune.py). -/
namespace Go.Proofs
open Go.Shelf
def Tryz.l188_ren : Go.Shelf.Ren := ⟨fun | 20 => 188 | n => n, fun | 24 => 75 | 22 => 25 | 3 => 3 | 25 => 89 | 4 => 4 | 0 => 0 | n => n, fun | n => n⟩
theorem Tryz.l188 : Go.Proofs.SlLaysF0.n20 Tryz.prog Tryz.l188_ren := {
  mixed := by kernel_rfl
  f20 := ⟨Tryz.f188.name, by decide, Tryz.func188.trans (congrArg some (by kernel_rfl))⟩
  t0 := Tryz.underlying0
  a0 := Tryz.isAgg0
  z0 := Tryz.sizeOf0
  v0 := Tryz.zeroValue0
  t3 := Tryz.underlying3
  a3 := Tryz.isAgg3
  z3 := Tryz.sizeOf3
  v3 := Tryz.zeroValue3
  t4 := Tryz.underlying4
  a4 := Tryz.isAgg4
  z4 := Tryz.sizeOf4
  v4 := Tryz.zeroValue4
  t22 := Tryz.underlying25
  a22 := Tryz.isAgg25
  z22 := Tryz.sizeOf25
  v22 := Tryz.zeroValue25
  t25 := Tryz.underlying89
  a25 := Tryz.isAgg89
  z25 := Tryz.sizeOf89
  v25 := Tryz.zeroValue89 }
end Go.Proofs
/- Rk, what a claim needs of it (prune.py). -/
namespace Go.Proofs.YtlndnpfjneeeeaaGreatDoor
open Go.RowKit Go.WideShapes Go.ChangeShapes
section
variable {H : Type} {enc : TypeId × Value → H} {P : Program}
theorem post_of_below {f : Func} {s : ChangeSpec} {apart fresh handsOn again : Bool} {W W' : World} {args : Array Value} {v : Value} {ds gs : List (DataW H)} {before pa pv : List MemPlace}
    (hW : DataW.Whole enc P f.params.toList s.vars apart W args.toList ds gs before)
    (hres : ∀ (b : Nat) (sp : Nat → Bool) (hd : Bool), DataW.TrodAll enc P W' b sp hd f.resultTypes.toList (v.resultList f.resultTypes.size) (s.fn H (ds ++ gs)).results [])
    (hargs : ∀ sp : Nat → Bool, (∀ p ∈ before, sp p.block = true) → DataW.TrodAll enc P W' 0 sp true f.params.toList args.toList (s.fn H (ds ++ gs)).args pa)
    (hvars : ∀ sp : Nat → Bool, (∀ p ∈ before, sp p.block = true) → DataW.TrodVars enc P W' sp s.vars (s.fn H (ds ++ gs)).vars pv)
    (hps : before = pa ++ pv) (hb : Below W.heap.size W W')
    (hok : ∀ (j : Nat) (t : TypeId) (r : Value), f.resultTypes[j]? = some t → (v.resultList f.resultTypes.size)[j]? = some r → Value.okWide P W' .any 0 t r) :
    s.post enc P f apart fresh handsOn again W args v W' := by
  have hlt : ∀ p ∈ before, p.block < W.heap.size := fun p hp => hW.lt p hp
  have hold : ∀ p ∈ before, (fun b => decide (b < W.heap.size)) p.block = true := fun p hp => by simpa using hlt p hp
  refine ⟨ds, gs, before, [], pa, pv, hW, hres _ _ _, hargs _ hold, hvars _ hold, World.keptBut_mono (fun p hp => ⟨hp, ?_⟩) (hb.frame (· ∈ before)), fun _ => ?_⟩
  · rw [hps, List.mem_append] at hp
    exact Or.inr hp
  · obtain ⟨_, _, _, _, _, hz, hn⟩ := hW
    refine ⟨hok, _, _, ([] ++ pa) ++ pv, ⟨[] ++ pa, pv, trodAll_append (hargs _ (fun _ _ => rfl)) (hres _ _ _), hvars _ (fun _ _ => rfl), rfl, ?_, ?_⟩, ?_⟩
    · intro b off hp
      have hin : MemPlace.cell b off ∈ before := by rw [hps]; simpa using hp
      rw [hb.frozen (hlt _ hin)]
      exact hz b off hin
    · intro ha
      have := hn ha
      rw [hps] at this
      simpa using this
    · intro p hp _
      rw [hps]
      simpa using hp
end
end Go.Proofs.YtlndnpfjneeeeaaGreatDoor
namespace Go.Proofs.YtlndnpfjneeeeaaGreatDoor
open Go.ChangeShapes Go.WideShapes Go.Deep Go.RowKit Go.ChangeMaps
set_option linter.unusedVariables false
set_option maxRecDepth 100000
section
variable {H : Type} {enc : TypeId × Value → H} {P : Program} {w : World} {base : Nat} {spare : Nat → Bool} {held : Bool}
end
theorem lt_of_cell {w : World} {a : Addr} {v : Value} (h : w.cell? a = some v) : a.block < w.heap.size := by
  unfold World.cell? at h
  rcases Nat.lt_or_ge a.block w.heap.size with h1 | h1
  · exact h1
  · rw [Array.getElem?_eq_none h1] at h; cases h
section
variable {H : Type} {enc : TypeId × Value → H} {W : World}
theorem sameAt_below {W W' : World} (hb : Below W.heap.size W W') (p : MemPlace) (h : p.block < W.heap.size) : W.sameAt W' p := by
  cases p with
  | cell b off => exact hb.cell (p := ⟨b, off, none⟩) h
  | map b => exact hb.block b h
theorem trodAll_carry {P : Program} {w w' : World} {sp : Nat → Bool} : ∀ {ts : List TypeId} {vs : List Value} {ds : List (DataW H)} {ps : List MemPlace}, DataW.TrodAll enc P w 0 sp true ts vs ds ps → (∀ p ∈ ps, w.sameAt w' p) → DataW.TrodAll enc P w' 0 sp true ts vs ds ps
  | [], [], [], _, h, _ => h
  | _ :: _, _ :: _, _ :: _, _, ⟨p, q, ⟨n, h1⟩, h2, e⟩, hs => ⟨p, q, ⟨n, DataW.trod_carry _ _ _ _ h1 (fun x hx => hs x (by rw [e]; exact List.mem_append_left _ hx))⟩, trodAll_carry h2 (fun x hx => hs x (by rw [e]; exact List.mem_append_right _ hx)), e⟩
theorem args_stay {P : Program} {W W' : World} (hl : laidOutB P = true) (hm : mapsRowed P = true) (hf : ((List.range P.types.size).all fun t => match P.underlying t with | some (.slice e) => decide (0 < P.cellsOf e) | _ => true) = true)
    {ts : List TypeId} {vs : List Value} {ds : List (DataW H)} {ps : List MemPlace} (hT : ts.all (fun t => decide (t < P.types.size)) = true) (h : DataW.TrodAll enc P W 0 (fun _ => true) true ts vs ds ps) (hlt : ∀ p ∈ ps, p.block < W.heap.size) (hb : Below W.heap.size W W')
    (sp : Nat → Bool) (hs : ∀ p ∈ ps, sp p.block = true) : DataW.TrodAll enc P W' 0 sp true ts vs ds ps :=
  trodAll_carry (DataW.TrodAll.respare (kids_rows hl hm) (slices_full_of P hf) (fun t ht => of_decide_eq_true (List.all_eq_true.1 hT t ht)) h hs) (fun p hp => sameAt_below hb p (hlt p hp))
end
end Go.Proofs.YtlndnpfjneeeeaaGreatDoor
