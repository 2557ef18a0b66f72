/- Joined by mkmerged.py: KgFiles, TgMore, PkNext, PkRead, PkBack, KOrd. -/
import Derived.Test.YtnheahologecfaaGreatDoorMb23
import Derived.Lib.Atoi
import Derived.Lib.AtoiErrMem
import Derived.Test.YtnheahologecfaaGreatDoorMb19
/- KgFiles, what a claim needs of it (prune.py). -/
namespace Go.Proofs.YtnheahologecfaaGreatDoor
open Go.RowKit
set_option linter.unusedVariables false
set_option maxRecDepth 100000
def Fl.b (f : Fl) : List UInt8 := fileB (tl f.p) (tl f.d)
structure Fl.Ok (f : Fl) : Prop where
  p : f.p.size ≤ 200
  d : f.d.size ≤ 3000
structure Fl.Ok60 (f : Fl) : Prop where
  p : f.p.size ≤ 60
  d : f.d.size ≤ 3000
theorem Fl.Ok60.ok {f : Fl} (h : f.Ok60) : f.Ok := ⟨by have := h.p; omega, h.d⟩
theorem Fl.Ok.b_le {f : Fl} (h : f.Ok) : (bs f.b).size ≤ 4000 := by
  rw [bs_size]
  have h1 := textlen_le f.p (by have := h.p; omega)
  have h2 := textlen_le f.d (by have := h.d; omega)
  rw [bs_size] at h1 h2
  have := h.p; have := h.d
  simp only [Fl.b, fileB, List.length_append]
  omega
def FlAt (w : World) (ad : Addr) (f : Fl) : Prop := w.cell? ad = some (.string f.p) ∧ w.cell? (ad.add 1) = some (.string f.d)
def Fls (w : World) (B : Nat) (A : Option Addr) (l : List Fl) : Prop := 0 < l.length → ∃ ad, A = some ad ∧ ad.block < B ∧ ∀ k (h : k < l.length), FlAt w (ad.add (k * 2)) l[k]
theorem Fls.below {w w' : World} {B : Nat} {A : Option Addr} {l : List Fl} (h : Fls w B A l) (hb : Below B w w') : Fls w' B A l := fun hl => by
  obtain ⟨ad, e, h1, h2⟩ := h hl
  refine ⟨ad, e, h1, fun k hk => ?_⟩
  obtain ⟨c0, c1⟩ := h2 k hk
  have h3 : (ad.add (k * 2)).block < B := by rw [block_of_add]; exact h1
  exact ⟨(hb.cell h3).trans c0, (hb.cell (by rw [block_of_add]; exact h3)).trans c1⟩
theorem Fls.more {w : World} {B B' : Nat} {A : Option Addr} {l : List Fl} (h : Fls w B A l) (hB : B ≤ B') : Fls w B' A l := fun hl => by
  obtain ⟨ad, e, h1, h2⟩ := h hl
  exact ⟨ad, e, by omega, h2⟩
theorem Fl.parts (f : Fl) : f.p.size ≤ f.b.length ∧ f.d.size ≤ f.b.length := by
  have h1 := text_len (tl f.p)
  have h2 := text_len (tl f.d)
  have e1 : f.p.size = (tl f.p).length := Lib.size_eq _
  have e2 : f.d.size = (tl f.d).length := Lib.size_eq _
  simp only [Fl.b, fileB, List.length_append]
  omega
theorem Fl.flat_ok {l : List Fl} (hl : l.length ≤ 60) (hok : ∀ t ∈ l, t.Ok) : ((l.map Fl.b).flatMap Pk.text).length ≤ 241260 := by
  have h1 := flat_le (l.map fun t => bs t.b) 4000 (by omega) (fun x hx => by
    obtain ⟨t, h1, rfl⟩ := List.mem_map.1 hx
    exact (hok t h1).b_le)
  have h2 : (l.map fun t => bs t.b).length * (4000 + 21) ≤ 60 * (4000 + 21) := Nat.mul_le_mul_right _ (by simpa using hl)
  rw [show ((l.map fun t => bs t.b).map tl) = l.map Fl.b by rw [List.map_map]; rfl] at h1
  omega
set_option maxHeartbeats 2000000 in
theorem listedF_any (A : Option Addr) (l : List Fl) (c : Nat) (hsz : ((l.map Fl.b).flatMap Pk.text).length ≤ 100000000) (w : World) (ht : Tab w) (hr : Fls w w.heap.size A l) :
    Calls Tryz.prog 260 #[.slice A l.length c, .func (.func 261) #[] #[]] w fun e w' => e = .returned (.string (bs (Pk.list (l.map Fl.b)))) ∧ Below w.heap.size w w' := by
  have hl : l.length ≤ 100000000 := by have := flat_count (l.map Fl.b); rw [List.length_map] at this; omega
  have HS := Lib.hid hsz
  clear hsz
  go_enter Tryz.func260, Tryz.ntmps260
  go_wp2_with (fail)
  go_loopw [5, 10] (fun v i wx => ∃ k : Nat, i = .int .i64 k ∧ k ≤ l.length ∧ wx.ownsRow w.heap.size 9 1 v k ((l.take k).map fun t => Value.string (bs t.b)) ∧ Below w.heap.size w wx) (fun _ i _ => l.length - (intOf i).toNat)
  case atStart => exact ⟨0, rfl, by omega, by simpa using World.ownsRow_nil _ _ _ _, Below.refl _ _⟩
  case round =>
    obtain ⟨k, rfl, hk, hown, hbx⟩ := hrel
    rename World => wx
    by_cases hlt : k < l.length
    · obtain ⟨ad, rfl, had, hcs⟩ := hr.below hbx (by omega)
      obtain ⟨c0, c1⟩ := hcs k hlt
      have hkI : (k : Int) < (l.length : Int) := by omega
      have e1 : wx.cell? ⟨(ad.add (k * 2)).block, (ad.add (k * 2)).off + 1, none⟩ = some (.string l[k].d) := c1
      clear c1
      have hbx1 : ∀ o, Below w.heap.size w (wx.alloc o) := fun o => hbx.alloc hbx.size o
      have hT := fun o => ht.on (hbx1 o)
      have hbt := flat_mem (List.mem_map.2 ⟨l[k], List.getElem_mem hlt, rfl⟩ : l[k].b ∈ l.map Fl.b)
      have hpp := l[k].parts
      have hsz := HS.out
      have FN := fun (o : Obj) => filefn_any l[k].p l[k].d (by omega) (by omega) (wx.alloc o) (hT o)
      have FNH := Lib.hid FN
      have TK : Hid (((l.take (k + 1)).map fun t => Value.string (bs t.b)) = ((l.take k).map fun t => Value.string (bs t.b)) ++ [.string (bs l[k].b)]) := Lib.hid (by rw [List.take_succ_eq_append_getElem hlt, List.map_append]; rfl)
      clear FN hbt hpp hsz hT hcs
      generalize l[k] = t at *
      have hbl : Hid (fileB (tl t.p) (tl t.d) = t.b) := Lib.hid rfl
      have hk9 : k + 1 ≤ 1000000000 := by omega
      go_wp2_with (first | (go_at_call 261; ((with_reducible refine (FNH.out _).mono ?_); rintro e w1 ⟨rfl, hb1⟩; have hbx2 := (hbx1 _).trans (hb1.mono (hbx1 _).size); have hown1 := own_later (hown.alloc _) hb1; have hB := hbx2.size; clear hown)) | (at_builtin; refine append_one rfl (.tmp 14) (.tmp 18) 38 rfl w.heap.size 9 _ 16 Tryz.underlying38 str_info rfl (by decide) _ k _ rfl hown1 (.string (bs (fileB (tl t.p) (tl t.d)))) rfl rfl hk9 hB hbx2 ?_; intro v' w2 hown2 hb2 _))
      go_roundw
      case rel =>
        refine ⟨k + 1, by go_num, by omega, ?_, hb2⟩
        rw [TK.out, ← hbl.out]
        exact hown2
      case measure => simp [intOf]; omega
    · obtain rfl : k = l.length := by omega
      rw [List.take_length] at hown
      obtain ⟨p, m, c', rfl⟩ := own_form hown
      have hm : m = l.length := by
        rcases hown.2 with ⟨h1, h2⟩ | ⟨g, cap, cur, h1, _⟩
        · injection h1; omega
        · injection h1
      subst hm
      have hst : Strs wx wx.heap.size p (l.map fun t => bs t.b) := by
        have := Reads.of_own hown
        unfold Strs
        rw [List.length_map, List.map_map]
        exact this
      have hfl : (((l.map fun t => bs t.b).map tl).flatMap Pk.text).length ≤ 500000000 := by
        rw [show ((l.map fun t => bs t.b).map tl) = l.map Fl.b by rw [List.map_map]; rfl]
        have := HS.out
        omega
      have LC := plist_any p (l.map fun t => bs t.b) c' wx (ht.on hbx) hst hfl
      rw [List.length_map, show ((l.map fun t => bs t.b).map tl) = l.map Fl.b by rw [List.map_map]; rfl] at LC
      have LCH := Lib.hid LC
      clear LC hst hfl hown
      go_wp2_with (go_at_call 153; ((with_reducible refine (LCH.out).mono ?_); rintro e w1 ⟨rfl, hb1⟩))
      go_ret
      exact ⟨rfl, hbx.trans (hb1.mono hbx.size)⟩
theorem kfiles_sz (A : Option Addr) (l : List Fl) (c : Nat) (hsz : ((l.map Fl.b).flatMap Pk.text).length ≤ 100000000) (w : World) (ht : Tab w) (hr : Fls w w.heap.size A l) :
    Calls Tryz.prog 204 #[.slice A l.length c] w fun e w' => e = .returned (.string (bs (Pk.list (l.map Fl.b)))) ∧ Below w.heap.size w w' := by
  have LC := Lib.hid (listedF_any A l c hsz w ht hr)
  go_enter Tryz.func204, Tryz.ntmps204
  go_wp2_with (go_at_call 260; ((with_reducible refine (LC.out).mono ?_); rintro e w1 ⟨rfl, hb1⟩))
  go_ret
  exact ⟨rfl, hb1⟩
theorem kfiles_any (A : Option Addr) (l : List Fl) (c : Nat) (hl : l.length ≤ 60) (hok : ∀ t ∈ l, t.Ok) (w : World) (ht : Tab w) (hr : Fls w w.heap.size A l) :
    Calls Tryz.prog 204 #[.slice A l.length c] w fun e w' => e = .returned (.string (bs (Pk.list (l.map Fl.b)))) ∧ Below w.heap.size w w' :=
  kfiles_sz A l c (by have := Fl.flat_ok hl hok; omega) w ht hr
end Go.Proofs.YtnheahologecfaaGreatDoor
/- TgMore, what a claim needs of it (prune.py). -/
namespace Go.Proofs.YtnheahologecfaaGreatDoor
open Go.RowKit
set_option linter.unusedVariables false
set_option maxRecDepth 100000
def Tg.Fit (t : Tg) : Prop := t.n.size ≤ maxLen ∧ t.c.size ≤ maxLen ∧ t.ds.length ≤ maxLen ∧ t.ss.length ≤ maxLen
def Fl.Fit (f : Fl) : Prop := f.p.size ≤ maxLen ∧ f.d.size ≤ maxLen
theorem Tgs.more {w : World} {B B' : Nat} {A : Option Addr} {l : List Tg} (h : Tgs w B A l) (hB : B ≤ B') : Tgs w B' A l := fun hl => by
  obtain ⟨ad, e, h1, h2⟩ := h hl
  refine ⟨ad, e, by omega, fun k hk => ?_⟩
  obtain ⟨Ad, cd, As, cs, c0, c1, c2, c3, c4, c5⟩ := h2 k hk
  exact ⟨Ad, cd, As, cs, c0, c1, c2, c3, c4.more hB, c5.more hB⟩
theorem Fls.none_ (w : World) (B : Nat) (A : Option Addr) : Fls w B A [] := fun h => absurd h (by simp)
theorem Tgs.none_ (w : World) (B : Nat) (A : Option Addr) : Tgs w B A [] := fun h => absurd h (by simp)
theorem mem_upto {α : Type} {l : List α} {Q : α → Prop} {k : Nat} (hk : k < l.length) (h : ∀ j (hj : j < l.length), j < k → Q l[j]) (h1 : Q l[k]) : ∀ j (hj : j < l.length), j < k + 1 → Q l[j] := by
  intro j hj hlt
  rcases Nat.lt_or_ge j k with h2 | h2
  · exact h j hj h2
  · obtain rfl : j = k := by omega
    exact h1
theorem mem_all {α : Type} {l : List α} {Q : α → Prop} (h : ∀ j (hj : j < l.length), j < l.length → Q l[j]) : ∀ x ∈ l, Q x := by
  intro x hx
  obtain ⟨j, hj, rfl⟩ := List.mem_iff_getElem.1 hx
  exact h j hj hj
end Go.Proofs.YtnheahologecfaaGreatDoor
/- PkNext, what a claim needs of it (prune.py). -/
namespace Go.Proofs.YtnheahologecfaaGreatDoor
open Go.RowKit
set_option linter.unusedVariables false
set_option maxRecDepth 100000
def lenV : Nat ⊕ (Nat × List UInt8) → Value
  | .inl c => .tuple #[.int .i64 0, .string ⟨#[]⟩, .int .i64 c]
  | .inr (n, r) => .tuple #[.int .i64 n, .string (bs r), .int .i64 0]
theorem kd_le (s : List UInt8) : Pk.kd s ≤ s.length ∧ Pk.kd s ≤ 7 := by
  have := (List.takeWhile_prefix (p := Pk.isDig) (l := s.take 7)).length_le
  unfold Pk.kd
  simp at this ⊢
  omega
theorem takeWhile_at {p : UInt8 → Bool} : ∀ (l : List UInt8) (j : Nat), j < (l.takeWhile p).length → ∃ c, l[j]? = some c ∧ p c = true
  | [], j, h => by simp at h
  | a :: l, j, h => by
    rw [List.takeWhile_cons] at h
    by_cases ha : p a = true
    · rw [if_pos ha] at h
      cases j with
      | zero => exact ⟨a, rfl, ha⟩
      | succ j => exact takeWhile_at l j (by simpa using h)
    · rw [if_neg ha] at h; simp at h
theorem takeWhile_end {p : UInt8 → Bool} : ∀ (l : List UInt8) (c : UInt8), l[(l.takeWhile p).length]? = some c → p c = false
  | [], c, h => by simp at h
  | a :: l, c, h => by
    rw [List.takeWhile_cons] at h
    by_cases ha : p a = true
    · rw [if_pos ha] at h
      exact takeWhile_end l c (by simpa using h)
    · rw [if_neg ha] at h
      simp at h
      subst h
      simpa using ha
theorem kd_dig {s : List UInt8} {j : Nat} (h : j < Pk.kd s) : ∃ c, s[j]? = some c ∧ 48 ≤ c.toNat ∧ c.toNat ≤ 57 := by
  obtain ⟨c, hc, hp⟩ := takeWhile_at (s.take 7) j h
  rw [List.getElem?_take] at hc
  split at hc
  · exact ⟨c, hc, by simpa [Pk.isDig] using hp⟩
  · cases hc
theorem kd_end {s : List UInt8} (h : Pk.kd s < s.length) : Pk.kd s = 7 ∨ ∃ c, s[Pk.kd s]? = some c ∧ ¬ (48 ≤ c.toNat ∧ c.toNat ≤ 57) := by
  have h7 := (kd_le s).2
  rcases Nat.lt_or_ge (Pk.kd s) 7 with h1 | h1
  · refine .inr ⟨s[Pk.kd s], List.getElem?_eq_getElem h, ?_⟩
    have := takeWhile_end (p := Pk.isDig) (s.take 7) s[Pk.kd s] (by
      rw [List.getElem?_take, if_pos (by unfold Pk.kd at h1; exact h1)]
      exact List.getElem?_eq_getElem h)
    simpa [Pk.isDig] using this
  · exact .inl (by omega)
theorem decFrom_digs : ∀ (l : List UInt8) (acc : Nat), (∀ c ∈ l, 48 ≤ c.toNat ∧ c.toNat ≤ 57) → Lib.decFrom acc l = some (l.foldl (fun n c => 10 * n + (c.toNat - 48)) acc)
  | [], acc, _ => rfl
  | a :: l, acc, h => by
    have ha := h a (List.mem_cons_self ..)
    have h1 : Lib.digitVal a = some (a.toNat - 48) := by simp [Lib.digitVal, ha]
    simp only [Lib.decFrom, h1, List.foldl_cons]
    rw [show acc * 10 + (a.toNat - 48) = 10 * acc + (a.toNat - 48) by omega]
    exact decFrom_digs l _ (fun c hc => h c (List.mem_cons_of_mem _ hc))
theorem atoi_digs (l : List UInt8) (h0 : l ≠ []) (h : ∀ c ∈ l, 48 ≤ c.toNat ∧ c.toNat ≤ 57) : Lib.atoi l = some (Pk.dval l : Int) := by
  cases l with
  | nil => exact absurd rfl h0
  | cons a l =>
    have ha := h a (List.mem_cons_self ..)
    have n1 : (a == 45) = false := by simp; intro e; subst e; simp at ha
    have n2 : (a == 43) = false := by simp; intro e; subst e; simp at ha
    simp only [Lib.atoi, n1, n2, Bool.false_eq_true, if_false, Lib.decNat, decFrom_digs _ _ h]
    rfl
theorem ret_val {a b : Value} (h : b = a) : Ending.returned a = .returned b := by rw [h]
theorem dval_go : ∀ (l : List UInt8) (a : Nat), (∀ c ∈ l, 48 ≤ c.toNat ∧ c.toNat ≤ 57) → l.foldl (fun n c => 10 * n + (c.toNat - 48)) a < (a + 1) * 10 ^ l.length
  | [], a, _ => by simp
  | x :: l, a, h => by
    have hx := h x (List.mem_cons_self ..)
    have := dval_go l (10 * a + (x.toNat - 48)) (fun c hc => h c (List.mem_cons_of_mem _ hc))
    simp only [List.foldl_cons, List.length_cons]
    refine Nat.lt_of_lt_of_le this ?_
    rw [Nat.pow_succ, Nat.mul_comm (10 ^ l.length) 10, ← Nat.mul_assoc]
    exact Nat.mul_le_mul_right _ (by omega)
theorem dval_lt (l : List UInt8) (h : ∀ c ∈ l, 48 ≤ c.toNat ∧ c.toNat ≤ 57) (h7 : l.length ≤ 7) : Pk.dval l < 100000000 := by
  have h1 := dval_go l 0 h
  have h2 : 10 ^ l.length ≤ 10 ^ 7 := Nat.pow_le_pow_right (by omega) h7
  unfold Pk.dval
  omega
theorem byte_at {s : ByteArray} {k : Nat} {c : UInt8} (h : (tl s)[k]? = some c) : ∃ hk : k < s.size, s[k]'hk = c := by
  obtain ⟨h1, h2⟩ := List.getElem?_eq_some_iff.1 h
  exact ⟨by rw [Lib.size_eq]; exact h1, h2⟩
theorem getD_byte {s : ByteArray} {k : Nat} (hk : k < s.size) : (tl s).getD k 0 = s[k]'hk := by
  rw [List.getD_eq_getElem?_getD, List.getElem?_eq_getElem (by rw [← Lib.size_eq]; exact hk)]
  rfl
theorem length_end {s : ByteArray} (h : Pk.kd (tl s) < s.size) : Pk.kd (tl s) = 7 ∨ (Pk.kd (tl s) < 7 ∧ (s[Pk.kd (tl s)]'h).toNat < 48) ∨ (Pk.kd (tl s) < 7 ∧ 57 < (s[Pk.kd (tl s)]'h).toNat) := by
  have h7 := (kd_le (tl s)).2
  rcases Nat.lt_or_ge (Pk.kd (tl s)) 7 with hl | hl
  · rcases kd_end (s := tl s) (by rw [← Lib.size_eq]; exact h) with h1 | ⟨c, h1, h2⟩
    · exact .inl h1
    · obtain ⟨_, h3⟩ := byte_at h1
      rw [h3]
      omega
  · exact .inl (by omega)
set_option maxHeartbeats 4000000 in
theorem length_any (s : ByteArray) (hs : s.size ≤ 1000000000) (w : World) :
    Calls Tryz.prog 229 #[.string s] w fun e w' => e = .returned (lenV (Pk.len (tl s))) ∧ Below w.heap.size w w' := by
  have hsz : (tl s).length = s.size := (Lib.size_eq s).symm
  have hK := kd_le (tl s)
  have DG : Hid (∀ j, j < Pk.kd (tl s) → ∃ hk : j < s.size, 48 ≤ (s[j]'hk).toNat ∧ (s[j]'hk).toNat ≤ 57) := Lib.hid (fun j hj => by
    obtain ⟨c, h1, h2, h3⟩ := kd_dig hj
    obtain ⟨hk, e⟩ := byte_at h1
    exact ⟨hk, by rw [e]; exact h2, by rw [e]; exact h3⟩)
  have EN := Lib.hid (length_end (s := s))
  have LN : Hid (∀ V, lenV (Pk.len (tl s)) = V → lenV (Pk.len (tl s)) = V) := Lib.hid (fun _ h => h)
  obtain ⟨K, eK⟩ : ∃ K, K = Pk.kd (tl s) := ⟨_, rfl⟩
  have EK := Lib.hid eK
  rw [← eK] at hK DG EN
  have HSZ := Lib.hid hsz
  have hK1 : K ≤ s.size := by omega
  have hK7 : K ≤ 7 := hK.2
  clear hK eK hsz
  go_enter Tryz.func229, Tryz.ntmps229
  go_wp2_with (fail)
  go_loop [5] (fun i => ∃ k : Nat, i = .int .i64 k ∧ k ≤ K) (fun i => K - (intOf i).toNat)
  case atStart => exact ⟨0, rfl, by omega⟩
  case round =>
    obtain ⟨k, rfl, hk⟩ := hrel
    by_cases hlt : k < K
    · obtain ⟨hks, d1, d2⟩ := DG.out k hlt
      have e1 : (k : Int) < (s.size : Int) := by omega
      have e2 : (k : Int) < 7 := by omega
      have e3 : (48 : Int) ≤ (s[k].toNat : Int) := by omega
      have e4 : (s[k].toNat : Int) ≤ 57 := by omega
      go_wp2_with (fail)
      go_round
      case rel => exact ⟨k + 1, by go_num, by omega⟩
      case measure => simp [intOf]; omega
    · obtain rfl : k = K := by omega
      have DD : Hid (∀ c ∈ (tl s).take k, 48 ≤ c.toNat ∧ c.toNat ≤ 57) := Lib.hid (fun c hc => by
        obtain ⟨j, hj, rfl⟩ := List.mem_iff_getElem.1 hc
        rw [List.length_take] at hj
        obtain ⟨hk, h1, h2⟩ := DG.out j (by omega)
        rw [List.getElem_take]
        exact ⟨h1, h2⟩)
      clear DG hlt hk
      rcases Nat.lt_or_ge k s.size with hks | hks
      · have e1 : (k : Int) < (s.size : Int) := by omega
        have n1 : ((k : Int) == (s.size : Int)) = false := by simp; omega
        have hend := EN.out hks
        have OUT : Hid ((s[k].toNat ≠ 58 ∨ k = 0 ∨ (1 < k ∧ (tl s).getD 0 0 = 48)) ∧ lenV (Pk.len (tl s)) = .tuple #[.int .i64 0, .string ⟨#[]⟩, .int .i64 11] ∨ ¬ (s[k].toNat ≠ 58 ∨ k = 0 ∨ (1 < k ∧ (tl s).getD 0 0 = 48)) ∧ lenV (Pk.len (tl s)) = .tuple #[.int .i64 (Pk.dval ((tl s).take k)), .string (bs ((tl s).drop (k + 1))), .int .i64 0]) := Lib.hid (by
          have hg : (tl s).getD k 0 = s[k] := getD_byte hks
          unfold Pk.len
          rw [← EK.out]
          simp only
          rw [if_neg (by rw [HSZ.out]; omega), hg]
          have hn : (s[k] ≠ 58) ↔ (s[k].toNat ≠ 58) := by rw [ne_eq, ne_eq, ← UInt8.toNat_inj]; rfl
          by_cases hc : s[k].toNat ≠ 58 ∨ k = 0 ∨ (1 < k ∧ (tl s).getD 0 0 = 48)
          · exact .inl ⟨hc, by rw [if_pos (by rw [hn]; exact hc)]; rfl⟩
          · exact .inr ⟨hc, by rw [if_neg (by rw [hn]; exact hc)]; rfl⟩)
        clear EK LN
        have AT : Hid (0 < k → ∀ W, Calls Tryz.prog 252 #[.string (s.extract 0 k)] W fun e w' => e = .returned (.tuple #[.int .i64 (Pk.dval ((tl s).take k)), .nilIface]) ∧ Below W.heap.size W w') := Lib.hid (fun h0 W => by
          have hx : (s.extract 0 k).data.toList = (tl s).take k := by rw [Lib.extract_data]; simp
          have hz : (s.extract 0 k).size = k := by rw [ByteArray.size_extract]; omega
          refine (Tryz.strconv_Atoi (s.extract 0 k) _ (by omega) (by rw [hx]; exact atoi_digs _ (by intro h; have := congrArg List.length h; rw [List.length_take] at this; simp only [List.length_nil] at this; have := HSZ.out; omega) DD.out) W).mono ?_
          rintro e w' ⟨h1, t, h2⟩
          exact ⟨h1, by rw [h2]; exact Lib.bytesWorld_below _ _ _⟩)
        have HV2 : Hid (lenV (Pk.len (tl s)) = .tuple #[.int .i64 (Pk.dval ((tl s).take k)), .string (bs ((tl s).drop (k + 1))), .int .i64 0] → lenV (Pk.len (tl s)) = .tuple #[.int .i64 (Pk.dval ((tl s).take k)), .string (s.extract (k + 1) s.size), .int .i64 0]) := Lib.hid (fun h => by
          rw [h, show bs ((tl s).drop (k + 1)) = s.extract (k + 1) s.size by rw [← bs_of (s.extract (k + 1) s.size), Lib.extract_to_end]])
        have hdv : Pk.dval ((tl s).take k) < 100000000 := dval_lt _ DD.out (by rw [List.length_take]; omega)
        clear EN DD
        generalize Pk.dval ((tl s).take k) = nv at *
        rcases hend with h7 | ⟨hl7, h8⟩ | ⟨hl7, h9⟩
        · have e2 : ¬ (k : Int) < 7 := by omega
          have h7' : 7 ≤ k := by omega
          clear h7
          by_cases g58 : s[k].toNat = 58
          · have a5 : (s[k].toNat : Int) = 58 := by omega
            have a6 : ((k : Int) == 0) = false := by simp; omega
            by_cases g1 : 1 < k
            · have s0 : 0 < s.size := by omega
              have a9 : (1 : Int) < (k : Int) := by omega
              by_cases gz : s[0].toNat = 48
              · have hV := OUT.out.resolve_right (fun h => h.1 (.inr (.inr ⟨g1, by rw [getD_byte s0]; exact UInt8.toNat_inj.1 gz⟩))) |>.2
                have a10 : ((s[0].toNat : Int) == 48) = true := by simp; omega
                have HV := Lib.hid hV
                clear OUT AT HV2 hV
                try clear g58
                try clear g0
                try clear gz
                go_wp2_with (fail)
                go_ret3
                exact ⟨ret_val HV.out, Below.refl _ _⟩
              · have HW := Lib.hid <| HV2.out (OUT.out.resolve_left (fun h => by
                  rcases h.1 with h | h | h
                  · exact h g58
                  · omega
                  · rw [getD_byte s0] at h; exact gz (by rw [h.2]; rfl))).2
                have a10 : ((s[0].toNat : Int) == 48) = false := by simp; omega
                have a7 : (k : Int) ≤ (s.size : Int) := by omega
                have a8 : (k : Int) + 1 ≤ (s.size : Int) := by omega
                have AT1 := Lib.hid (AT.out (by omega))
                clear OUT AT HV2
                try clear g58
                try clear gz
                go_wp2_with (go_at_call 252; ((with_reducible refine (AT1.out _).mono ?_); rintro e w1 ⟨rfl, hb1⟩))
                go_quiet (fail)
                go_wp2
                go_ret3
                exact ⟨ret_val HW.out, hb1.trans (belowDN (Below.refl _ _) _)⟩
            · omega
          · have hV := OUT.out.resolve_right (fun h => h.1 (.inl g58)) |>.2
            have a5 : (s[k].toNat : Int) ≠ 58 := by omega
            have HV := Lib.hid hV
            clear OUT AT HV2 hV
            try clear g58
            try clear g0
            try clear gz
            go_wp2_with (fail)
            go_ret3
            exact ⟨ret_val HV.out, Below.refl _ _⟩
        · have e2 : (k : Int) < 7 := by omega
          have e3 : ¬ (48 : Int) ≤ (s[k].toNat : Int) := by omega
          by_cases g58 : s[k].toNat = 58
          · omega
          · have hV := OUT.out.resolve_right (fun h => h.1 (.inl g58)) |>.2
            have a5 : (s[k].toNat : Int) ≠ 58 := by omega
            have HV := Lib.hid hV
            clear OUT AT HV2 hV
            try clear g58
            try clear g0
            try clear gz
            go_wp2_with (fail)
            go_ret3
            exact ⟨ret_val HV.out, Below.refl _ _⟩
        · have e2 : (k : Int) < 7 := by omega
          have e3 : ¬ (s[k].toNat : Int) ≤ 57 := by omega
          have e4 : (48 : Int) ≤ (s[k].toNat : Int) := by omega
          by_cases g58 : s[k].toNat = 58
          · have a5 : (s[k].toNat : Int) = 58 := by omega
            by_cases g0 : k = 0
            · have hV := OUT.out.resolve_right (fun h => h.1 (.inr (.inl g0))) |>.2
              have a6 : ((k : Int) == 0) = true := by simp; omega
              have HV := Lib.hid hV
              clear OUT AT HV2 hV
              try clear g58
              try clear g0
              try clear gz
              go_wp2_with (fail)
              go_ret3
              exact ⟨ret_val HV.out, Below.refl _ _⟩
            · have a6 : ((k : Int) == 0) = false := by simp; omega
              by_cases g1 : 1 < k
              · have s0 : 0 < s.size := by omega
                have a9 : (1 : Int) < (k : Int) := by omega
                by_cases gz : s[0].toNat = 48
                · have hV := OUT.out.resolve_right (fun h => h.1 (.inr (.inr ⟨g1, by rw [getD_byte s0]; exact UInt8.toNat_inj.1 gz⟩))) |>.2
                  have a10 : ((s[0].toNat : Int) == 48) = true := by simp; omega
                  have HV := Lib.hid hV
                  clear OUT AT HV2 hV
                  try clear g58
                  try clear g0
                  try clear gz
                  go_wp2_with (fail)
                  go_ret3
                  exact ⟨ret_val HV.out, Below.refl _ _⟩
                · have HW := Lib.hid <| HV2.out (OUT.out.resolve_left (fun h => by
                    rcases h.1 with h | h | h
                    · exact h g58
                    · omega
                    · rw [getD_byte s0] at h; exact gz (by rw [h.2]; rfl))).2
                  have a10 : ((s[0].toNat : Int) == 48) = false := by simp; omega
                  have a7 : (k : Int) ≤ (s.size : Int) := by omega
                  have a8 : (k : Int) + 1 ≤ (s.size : Int) := by omega
                  have AT1 := Lib.hid (AT.out (by omega))
                  clear OUT AT HV2
                  try clear g58
                  try clear gz
                  go_wp2_with (go_at_call 252; ((with_reducible refine (AT1.out _).mono ?_); rintro e w1 ⟨rfl, hb1⟩))
                  go_quiet (fail)
                  go_wp2
                  go_ret3
                  exact ⟨ret_val HW.out, hb1.trans (belowDN (Below.refl _ _) _)⟩
              · have HW := Lib.hid <| HV2.out (OUT.out.resolve_left (fun h => by
                  rcases h.1 with h | h | h
                  · exact h g58
                  · omega
                  · omega)).2
                have a9 : ¬ (1 : Int) < (k : Int) := by omega
                have a7 : (k : Int) ≤ (s.size : Int) := by omega
                have a8 : (k : Int) + 1 ≤ (s.size : Int) := by omega
                have AT1 := Lib.hid (AT.out (by omega))
                clear OUT AT HV2
                try clear g58
                try clear gz
                go_wp2_with (go_at_call 252; ((with_reducible refine (AT1.out _).mono ?_); rintro e w1 ⟨rfl, hb1⟩))
                go_quiet (fail)
                go_wp2
                go_ret3
                exact ⟨ret_val HW.out, hb1.trans (belowDN (Below.refl _ _) _)⟩
          · have hV := OUT.out.resolve_right (fun h => h.1 (.inl g58)) |>.2
            have a5 : (s[k].toNat : Int) ≠ 58 := by omega
            have HV := Lib.hid hV
            clear OUT AT HV2 hV
            try clear g58
            try clear g0
            try clear gz
            go_wp2_with (fail)
            go_ret3
            exact ⟨ret_val HV.out, Below.refl _ _⟩
      · obtain rfl : k = s.size := by omega
        have hV : lenV (Pk.len (tl s)) = .tuple #[.int .i64 0, .string ⟨#[]⟩, .int .i64 10] := by
          unfold Pk.len
          rw [← EK.out]
          simp only
          rw [if_pos HSZ.out.symm]
          rfl
        have HV := Lib.hid hV
        clear hV
        clear EK LN EN
        go_wp2_with (fail)
        go_ret3
        exact ⟨ret_val HV.out, Below.refl _ _⟩
end Go.Proofs.YtnheahologecfaaGreatDoor
/- PkRead, what a claim needs of it (prune.py). -/
namespace Go.Proofs.YtnheahologecfaaGreatDoor
open Go.RowKit
set_option linter.unusedVariables false
set_option maxRecDepth 100000
def nxV : Pk.Nx → Value
  | .bad c => .tuple #[.string ⟨#[]⟩, .string ⟨#[]⟩, .int .i64 c]
  | .ok t r => .tuple #[.string (bs t), .string (bs r), .int .i64 0]
theorem len_bad {l : List UInt8} {c : Nat} (h : Pk.len l = .inl c) : c = 10 ∨ c = 11 := by
  unfold Pk.len at h
  simp only at h
  split at h
  · injection h with h; exact .inl h.symm
  · split at h
    · injection h with h; exact .inr h.symm
    · cases h
theorem len_good {l r : List UInt8} {n : Nat} (h : Pk.len l = .inr (n, r)) : r.length ≤ l.length ∧ n < 100000000 := by
  unfold Pk.len at h
  simp only at h
  split at h
  · cases h
  · split at h
    · cases h
    · injection h with h
      injection h with h1 h2
      subst h1 h2
      refine ⟨by simp, ?_⟩
      refine dval_lt _ (fun c hc => ?_) (by rw [List.length_take]; have := (kd_le l).2; omega)
      obtain ⟨j, hj, rfl⟩ := List.mem_iff_getElem.1 hc
      rw [List.length_take] at hj
      obtain ⟨c, h1, h2, h3⟩ := kd_dig (s := l) (j := j) (by omega)
      rw [List.getElem_take]
      have := (List.getElem?_eq_some_iff.1 h1).2
      rw [this]
      exact ⟨h2, h3⟩
set_option maxHeartbeats 4000000 in
theorem next_any (l : List UInt8) (hs : l.length ≤ 1000000000) (w : World) :
    Calls Tryz.prog 161 #[.string (bs l)] w fun e w' => e = .returned (nxV (Pk.nxt l)) ∧ Below w.heap.size w w' := by
  have LN := length_any (bs l) (by rw [bs_size]; omega)
  rw [show tl (bs l) = l from rfl] at LN
  rcases hlen : Pk.len l with c | ⟨n, r⟩
  · have hc := len_bad hlen
    have HV : Hid (nxV (Pk.nxt l) = .tuple #[.string ⟨#[]⟩, .string ⟨#[]⟩, .int .i64 c]) := Lib.hid (by unfold Pk.nxt; rw [hlen]; rfl)
    rw [hlen, show lenV (.inl c) = .tuple #[.int .i64 0, .string ⟨#[]⟩, .int .i64 c] from rfl] at LN
    have LNH := Lib.hid LN
    clear LN hlen
    rcases hc with rfl | rfl
    all_goals
      go_enter Tryz.func161, Tryz.ntmps161
      go_wp2_with (go_at_call 229; ((with_reducible refine (LNH.out _).mono ?_); rintro e w1 ⟨rfl, hb1⟩))
      go_ret3
      exact ⟨ret_val HV.out, hb1⟩
  · obtain ⟨hr, hn⟩ := len_good hlen
    rw [hlen, show lenV (.inr (n, r)) = .tuple #[.int .i64 n, .string (bs r), .int .i64 0] from rfl] at LN
    have LNH := Lib.hid LN
    clear LN
    have hrs := bs_size r
    obtain ⟨R, eR⟩ : ∃ R, R = bs r := ⟨_, rfl⟩
    have hRl : tl R = r := by rw [eR]; rfl
    rw [← eR] at LNH hrs
    have OUT : nxV (Pk.nxt l) = if r.length ≤ n then .tuple #[.string ⟨#[]⟩, .string ⟨#[]⟩, .int .i64 10] else if r.getD n 0 ≠ 44 then .tuple #[.string ⟨#[]⟩, .string ⟨#[]⟩, .int .i64 11] else .tuple #[.string (bs (r.take n)), .string (bs (r.drop (n + 1))), .int .i64 0] := by
      unfold Pk.nxt
      rw [hlen]
      simp only
      split
      · rfl
      · split <;> rfl
    by_cases h1 : r.length ≤ n
    · have HV := Lib.hid (OUT.trans (if_pos h1))
      have i1 : R.size ≤ n := by omega
      have i1' : (R.size : Int) ≤ (n : Int) := by omega
      clear OUT hlen eR hRl hrs
      go_enter Tryz.func161, Tryz.ntmps161
      go_wp2_with (go_at_call 229; ((with_reducible refine (LNH.out _).mono ?_); rintro e w1 ⟨rfl, hb1⟩))
      go_ret3
      exact ⟨ret_val HV.out, hb1⟩
    · have i1 : ¬ R.size ≤ n := by omega
      have hnR : n < R.size := by omega
      have i2 : (n : Int) < (R.size : Int) := by omega
      have i3 : (n : Int) + 1 ≤ (R.size : Int) := by omega
      have i4 : (n : Int) ≤ (R.size : Int) := by omega
      have hg : r.getD n 0 = R[n] := by rw [← hRl]; exact getD_byte hnR
      have hq : (r.getD n 0 ≠ 44) ↔ R[n].toNat ≠ 44 := by rw [hg, ne_eq, ne_eq, ← UInt8.toNat_inj]; rfl
      by_cases h2 : R[n].toNat ≠ 44
      · have HV := Lib.hid ((OUT.trans (if_neg h1)).trans (if_pos (hq.2 h2)))
        have j1 : (R[n].toNat : Int) ≠ 44 := by omega
        clear OUT hlen eR hRl hrs hg hq
        go_enter Tryz.func161, Tryz.ntmps161
        go_wp2_with (go_at_call 229; ((with_reducible refine (LNH.out _).mono ?_); rintro e w1 ⟨rfl, hb1⟩))
        go_ret3
        exact ⟨ret_val HV.out, hb1⟩
      · have hV := (OUT.trans (if_neg h1)).trans (if_neg (fun h => h2 (hq.1 h)))
        have b1 : bs (r.take n) = R.extract 0 n := by rw [← bs_of (R.extract 0 n), Lib.extract_data, show R.data.toList = r from hRl]; simp
        have b2 : bs (r.drop (n + 1)) = R.extract (n + 1) R.size := by rw [← bs_of (R.extract (n + 1) R.size), Lib.extract_to_end, show R.data.toList = r from hRl]
        rw [b1, b2] at hV
        have HV := Lib.hid hV
        have j1 : (R[n].toNat : Int) = 44 := by omega
        clear OUT hlen eR hRl hrs hg hq hV b1 b2 h2
        go_enter Tryz.func161, Tryz.ntmps161
        go_wp2_with (go_at_call 229; ((with_reducible refine (LNH.out _).mono ?_); rintro e w1 ⟨rfl, hb1⟩))
        go_quiet (fail)
        go_wp2
        go_ret3
        exact ⟨ret_val HV.out, hb1.trans (belowDN (Below.refl _ _) _)⟩
def RdAt (w : World) (b : Nat) (r : Pk.Rd) : Prop := w.heap[b]? = some (.cells #[.string (bs r.rest), .int .i64 r.bad] 212 (0, 0))
set_option maxHeartbeats 4000000 in
theorem rtext_any (b : Nat) (r : Pk.Rd) (hs : r.rest.length ≤ 1000000000) (w : World) (h : RdAt w b r) :
    Calls Tryz.prog 160 #[.pointer (some ⟨b, 0, none⟩)] w fun e w' => e = .returned (.string (bs r.text.1)) ∧ RdAt w' b r.text.2 ∧ w.grownBy w' (some b) := by
  obtain ⟨l, bad⟩ := r
  have c0 : w.cell? ⟨b, 0, none⟩ = some (.string (bs l)) := (cell_heap h 0).trans rfl
  have c1 : w.cell? ⟨b, 1, none⟩ = some (.int .i64 bad) := (cell_heap h 1).trans rfl
  by_cases hb : bad = 0
  · subst hb
    have f0 : w.frozen? ⟨b, 0, none⟩ = false := frozen_heap h 0
    have f1 : w.frozen? ⟨b, 1, none⟩ = false := frozen_heap h 1
    have NX := next_any l hs w
    rcases hn : Pk.nxt l with c | ⟨t, q⟩
    · rw [hn, show nxV (.bad c) = .tuple #[.string ⟨#[]⟩, .string ⟨#[]⟩, .int .i64 c] from rfl] at NX
      have hc : c = 10 ∨ c = 11 := by
        unfold Pk.nxt at hn
        split at hn
        · rename_i e he; injection hn with hn; subst hn; exact len_bad he
        · split at hn
          · injection hn with hn; exact .inl hn.symm
          · split at hn
            · injection hn with hn; exact .inr hn.symm
            · cases hn
      have HT : Hid (Pk.Rd.text ⟨l, 0⟩ = ([], ⟨l, c⟩)) := Lib.hid (by unfold Pk.Rd.text; simp [hn])
      have NXH := Lib.hid NX
      clear NX hn
      have hbl : b < w.heap.size := lt_heap h
      have H := Lib.hid h
      clear h
      rcases hc with rfl | rfl
      all_goals
        go_enter Tryz.func160, Tryz.ntmps160
        go_wp2_with (go_at_call 161; ((with_reducible refine (NXH.out).mono ?_); rintro e w1 ⟨rfl, hb1⟩; have d1 := (hb1.cell (p := ⟨b, 1, none⟩) hbl).trans c1; have g1 := (hb1.frozen (p := ⟨b, 1, none⟩) hbl).trans f1))
        go_ret
        refine ⟨ret_str (by rw [HT.out]; rfl), ?_, ?_⟩
        · rw [HT.out]
          exact heap_set (heap_below hb1 hbl H.out)
        · exact grown_set (grown_of_below hb1 _) (.inr rfl) _ _
    · rw [hn, show nxV (.ok t q) = .tuple #[.string (bs t), .string (bs q), .int .i64 0] from rfl] at NX
      have HT : Hid (Pk.Rd.text ⟨l, 0⟩ = (t, ⟨q, 0⟩)) := Lib.hid (by unfold Pk.Rd.text; simp [hn])
      have NXH := Lib.hid NX
      clear NX hn
      have hbl : b < w.heap.size := lt_heap h
      have H := Lib.hid h
      clear h
      go_enter Tryz.func160, Tryz.ntmps160
      go_wp2_with (go_at_call 161; ((with_reducible refine (NXH.out).mono ?_); rintro e w1 ⟨rfl, hb1⟩; have d1 := (hb1.cell (p := ⟨b, 0, none⟩) hbl).trans c0; have g1 := (hb1.frozen (p := ⟨b, 0, none⟩) hbl).trans f0))
      go_ret
      refine ⟨ret_str (by rw [HT.out]), ?_, ?_⟩
      · rw [HT.out]
        exact heap_set (heap_below hb1 hbl H.out)
      · exact grown_set (grown_of_below hb1 _) (.inr rfl) _ _
  · have n1 : ((bad : Int) != 0) = true := by simp; omega
    have HT : Hid (Pk.Rd.text ⟨l, bad⟩ = ([], ⟨l, bad⟩)) := Lib.hid (by unfold Pk.Rd.text; simp [hb])
    have H := Lib.hid h
    clear h
    go_enter Tryz.func160, Tryz.ntmps160
    go_wp2_with (fail)
    go_ret
    exact ⟨ret_str (by rw [HT.out]; rfl), by rw [HT.out]; exact H.out, grown_refl _ _⟩
end Go.Proofs.YtnheahologecfaaGreatDoor
namespace Go.Proofs.YtnheahologecfaaGreatDoor
open Go.RowKit
set_option linter.unusedVariables false
set_option maxRecDepth 100000
theorem bs_nil : bs [] = ⟨#[]⟩ := rfl
theorem bs_ne {l : List UInt8} (h : l ≠ []) : (bs l).toList.isEmpty = false := by
  rw [Lib.toList_data]
  cases l with
  | nil => exact absurd rfl h
  | cons a l => rfl
def ListSays (b : Nat) (r : Pk.Rd) (w : World) (e : Ending) (w' : World) : Prop :=
  ∃ v, e = .returned v ∧ w'.ownsRow w.heap.size 9 1 v r.list.1.length (r.list.1.map fun t => Value.string (bs t)) ∧ RdAt w' b r.list.2 ∧ w.grownBy w' (some b)
theorem RdAt.later {w w' : World} {b : Nat} {r : Pk.Rd} (h : RdAt w b r) (k : Below w.heap.size w w') : RdAt w' b r := heap_below k (lt_heap h) h
end Go.Proofs.YtnheahologecfaaGreatDoor
/- PkBack, what a claim needs of it (prune.py). -/
namespace Go.Proofs.YtnheahologecfaaGreatDoor.Pk
open Go
theorem dig_of {c : UInt8} (h : isDig c = true) : ∃ d, d < 10 ∧ c = UInt8.ofNat (48 + d) ∧ c.toNat = 48 + d := by
  simp only [isDig, Bool.and_eq_true, decide_eq_true_eq] at h
  refine ⟨c.toNat - 48, by omega, ?_, by omega⟩
  apply UInt8.toNat_inj.1
  rw [UInt8.toNat_ofNat_of_lt' (by show 48 + (c.toNat - 48) < 256; omega)]
  omega
end Go.Proofs.YtnheahologecfaaGreatDoor.Pk
/- KOrd, what a claim needs of it (prune.py). -/
namespace Go.Proofs.YtnheahologecfaaGreatDoor
open Go.RowKit
set_option linter.unusedVariables false
set_option maxRecDepth 100000
theorem glist_le {l : List Tg} (hl : l.length ≤ 20) (hok : ∀ t ∈ l, t.Ok) : (bs (Pk.list (l.map Tg.b))).size ≤ 200441 := by
  have h1 := flat_le (l.map fun t => bs t.b) 10000 (by omega) (fun x hx => by
    obtain ⟨t, h1, rfl⟩ := List.mem_map.1 hx
    exact (hok t h1).b_le)
  have h2 : (l.map fun t => bs t.b).length * (10000 + 21) ≤ 20 * (10000 + 21) := Nat.mul_le_mul_right _ (by simpa using hl)
  have h3 := listlen_le (l.map fun t => bs t.b) (by omega)
  rw [show ((l.map fun t => bs t.b).map tl) = l.map Tg.b by rw [List.map_map]; rfl] at h1 h3
  omega
theorem flist_le {l : List Fl} (hl : l.length ≤ 60) (hok : ∀ t ∈ l, t.Ok) : (bs (Pk.list (l.map Fl.b))).size ≤ 241281 := by
  have h1 := flat_le (l.map fun t => bs t.b) 4000 (by omega) (fun x hx => by
    obtain ⟨t, h1, rfl⟩ := List.mem_map.1 hx
    exact (hok t h1).b_le)
  have h2 : (l.map fun t => bs t.b).length * (4000 + 21) ≤ 60 * (4000 + 21) := Nat.mul_le_mul_right _ (by simpa using hl)
  have h3 := listlen_le (l.map fun t => bs t.b) (by omega)
  rw [show ((l.map fun t => bs t.b).map tl) = l.map Fl.b by rw [List.map_map]; rfl] at h1 h3
  omega
def orderB (l : List Tg) (fs : List Fl) (g : ByteArray) : ByteArray := bs (Blk.sum (tl (bs (Pk.list (l.map Tg.b)) ++ bs (Pk.list (fs.map Fl.b)) ++ bs (Pk.text (tl g)))))
set_option maxHeartbeats 2000000 in
theorem korder_any (A F : Option Addr) (l : List Tg) (fs : List Fl) (c d : Nat) (g : ByteArray) (hg : g.size ≤ 100) (h1 : l.length ≤ 20) (h2 : ∀ t ∈ l, t.Ok) (h3 : fs.length ≤ 60) (h4 : ∀ f ∈ fs, f.Ok) (w : World) (ht : Tab w) (hr : Tgs w w.heap.size A l) (hq : Fls w w.heap.size F fs) :
    Calls Tryz.prog 144 #[.slice A l.length c, .slice F fs.length d, .string g] w fun e w' => e = .returned (.string (orderB l fs g)) ∧ Below w.heap.size w w' := by
  have KG := Lib.hid (kgraph_any A l c h1 h2 w ht hr)
  have KF : Hid (∀ W, Below w.heap.size w W → Calls Tryz.prog 204 #[.slice F fs.length d] W fun e w' => e = .returned (.string (bs (Pk.list (fs.map Fl.b)))) ∧ Below W.heap.size W w') := Lib.hid (fun W hW => kfiles_any F fs d h3 h4 W (ht.on hW) ((hq.below hW).more hW.size))
  have TX : Hid (∀ W, Below w.heap.size w W → Calls Tryz.prog 205 #[.string g] W fun e w' => e = .returned (.string (bs (Pk.text (tl g)))) ∧ Below W.heap.size W w') := Lib.hid (fun W hW => text_any g (by omega) W (ht.on hW))
  have OB : Hid (orderB l fs g = bs (Blk.sum (tl (bs (Pk.list (l.map Tg.b)) ++ bs (Pk.list (fs.map Fl.b)) ++ bs (Pk.text (tl g)))))) := Lib.hid rfl
  have x1 := glist_le h1 h2
  have x2 := flist_le h3 h4
  have x3 := textlen_le g (by omega)
  generalize bs (Pk.list (l.map Tg.b)) = X at *
  generalize bs (Pk.list (fs.map Fl.b)) = Y at *
  generalize bs (Pk.text (tl g)) = Z at *
  generalize orderB l fs g = R at *
  have hXY : X.size + Y.size ≤ 9223372036854775807 := by omega
  have hXYZ : X.size + Y.size + Z.size ≤ 9223372036854775807 := by omega
  have hXYZ' : (X ++ Y).size + Z.size ≤ 9223372036854775807 := by rw [ByteArray.size_append]; omega
  have SM : Hid (∀ W, Calls Tryz.prog 52 #[.string (X ++ Y ++ Z)] W fun e w' => e = .returned (.string R) ∧ Below W.heap.size W w') := Lib.hid (by rw [OB.out]; exact fun W => sum_any (X ++ Y ++ Z) (by rw [ByteArray.size_append, ByteArray.size_append]; omega) W)
  clear x1 x2 x3 h2 h4
  go_enter Tryz.func144, Tryz.ntmps144
  go_wp2_with (first | (go_at_call 203; ((with_reducible refine (KG.out).mono ?_); rintro e w1 ⟨rfl, hb1⟩)) | (go_at_call 204; ((with_reducible refine (KF.out _ hb1).mono ?_); rintro e w2 ⟨rfl, hb2⟩; have hb12 := hb1.trans (hb2.mono hb1.size))) | (go_at_call 205; ((with_reducible refine (TX.out _ hb12).mono ?_); rintro e w3 ⟨rfl, hb3⟩; have hb13 := hb12.trans (hb3.mono hb12.size))) | (go_at_call 52; ((with_reducible refine (SM.out _).mono ?_); rintro e w4 ⟨rfl, hb4⟩)))
  go_ret
  exact ⟨rfl, hb13.trans (hb4.mono hb13.size)⟩
end Go.Proofs.YtnheahologecfaaGreatDoor
