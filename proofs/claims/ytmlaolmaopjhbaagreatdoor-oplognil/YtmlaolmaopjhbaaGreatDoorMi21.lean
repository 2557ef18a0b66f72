/- Joined by mkmerged.py: KgFiles, TgMore, KgFiles2. -/
import Derived.Test.YtmlaolmaopjhbaaGreatDoorMi15
import Derived.Test.YtmlaolmaopjhbaaGreatDoorMi17
/- KgFiles, what a claim needs of it (prune.py). -/
namespace Go.Proofs.YtmlaolmaopjhbaaGreatDoor
open Go.RowKit
set_option linter.unusedVariables false
set_option maxRecDepth 100000
def Fl.b (f : Fl) : List UInt8 := fileB (tl f.p) (tl f.d)
structure Fl.Ok (f : Fl) : Prop where
  p : f.p.size ≤ 200
  d : f.d.size ≤ 3000
structure Fl.Ok60 (f : Fl) : Prop where
  p : f.p.size ≤ 60
  d : f.d.size ≤ 3000
theorem Fl.Ok60.ok {f : Fl} (h : f.Ok60) : f.Ok := ⟨by have := h.p; omega, h.d⟩
theorem Fl.Ok.b_le {f : Fl} (h : f.Ok) : (bs f.b).size ≤ 4000 := by
  rw [bs_size]
  have h1 := textlen_le f.p (by have := h.p; omega)
  have h2 := textlen_le f.d (by have := h.d; omega)
  rw [bs_size] at h1 h2
  have := h.p; have := h.d
  simp only [Fl.b, fileB, List.length_append]
  omega
def FlAt (w : World) (ad : Addr) (f : Fl) : Prop := w.cell? ad = some (.string f.p) ∧ w.cell? (ad.add 1) = some (.string f.d)
def Fls (w : World) (B : Nat) (A : Option Addr) (l : List Fl) : Prop := 0 < l.length → ∃ ad, A = some ad ∧ ad.block < B ∧ ∀ k (h : k < l.length), FlAt w (ad.add (k * 2)) l[k]
theorem Fls.below {w w' : World} {B : Nat} {A : Option Addr} {l : List Fl} (h : Fls w B A l) (hb : Below B w w') : Fls w' B A l := fun hl => by
  obtain ⟨ad, e, h1, h2⟩ := h hl
  refine ⟨ad, e, h1, fun k hk => ?_⟩
  obtain ⟨c0, c1⟩ := h2 k hk
  have h3 : (ad.add (k * 2)).block < B := by rw [block_of_add]; exact h1
  exact ⟨(hb.cell h3).trans c0, (hb.cell (by rw [block_of_add]; exact h3)).trans c1⟩
theorem Fls.more {w : World} {B B' : Nat} {A : Option Addr} {l : List Fl} (h : Fls w B A l) (hB : B ≤ B') : Fls w B' A l := fun hl => by
  obtain ⟨ad, e, h1, h2⟩ := h hl
  exact ⟨ad, e, by omega, h2⟩
theorem Fl.parts (f : Fl) : f.p.size ≤ f.b.length ∧ f.d.size ≤ f.b.length := by
  have h1 := text_len (tl f.p)
  have h2 := text_len (tl f.d)
  have e1 : f.p.size = (tl f.p).length := Lib.size_eq _
  have e2 : f.d.size = (tl f.d).length := Lib.size_eq _
  simp only [Fl.b, fileB, List.length_append]
  omega
theorem Fl.flat_ok {l : List Fl} (hl : l.length ≤ 60) (hok : ∀ t ∈ l, t.Ok) : ((l.map Fl.b).flatMap Pk.text).length ≤ 241260 := by
  have h1 := flat_le (l.map fun t => bs t.b) 4000 (by omega) (fun x hx => by
    obtain ⟨t, h1, rfl⟩ := List.mem_map.1 hx
    exact (hok t h1).b_le)
  have h2 : (l.map fun t => bs t.b).length * (4000 + 21) ≤ 60 * (4000 + 21) := Nat.mul_le_mul_right _ (by simpa using hl)
  rw [show ((l.map fun t => bs t.b).map tl) = l.map Fl.b by rw [List.map_map]; rfl] at h1
  omega
end Go.Proofs.YtmlaolmaopjhbaaGreatDoor
/- TgMore, what a claim needs of it (prune.py). -/
namespace Go.Proofs.YtmlaolmaopjhbaaGreatDoor
open Go.RowKit
set_option linter.unusedVariables false
set_option maxRecDepth 100000
theorem Tgs.more {w : World} {B B' : Nat} {A : Option Addr} {l : List Tg} (h : Tgs w B A l) (hB : B ≤ B') : Tgs w B' A l := fun hl => by
  obtain ⟨ad, e, h1, h2⟩ := h hl
  refine ⟨ad, e, by omega, fun k hk => ?_⟩
  obtain ⟨Ad, cd, As, cs, c0, c1, c2, c3, c4, c5⟩ := h2 k hk
  exact ⟨Ad, cd, As, cs, c0, c1, c2, c3, c4.more hB, c5.more hB⟩
theorem Fls.none_ (w : World) (B : Nat) (A : Option Addr) : Fls w B A [] := fun h => absurd h (by simp)
theorem Tgs.none_ (w : World) (B : Nat) (A : Option Addr) : Tgs w B A [] := fun h => absurd h (by simp)
end Go.Proofs.YtmlaolmaopjhbaaGreatDoor
/- KgFiles2, what a claim needs of it (prune.py). -/
namespace Go.Proofs.YtmlaolmaopjhbaaGreatDoor
open Go.RowKit
set_option linter.unusedVariables false
set_option maxRecDepth 100000
set_option maxHeartbeats 2000000 in
theorem listedF_any (A : Option Addr) (l : List Fl) (c : Nat) (hsz : ((l.map Fl.b).flatMap Pk.text).length ≤ 100000000) (w : World) (ht : Tab w) (hr : Fls w w.heap.size A l) :
    Calls Tryz.prog 229 #[.slice A l.length c, .func (.func 230) #[] #[]] w fun e w' => e = .returned (.string (bs (Pk.list (l.map Fl.b)))) ∧ Below w.heap.size w w' := by
  have hl : l.length ≤ 100000000 := by have := flat_count (l.map Fl.b); rw [List.length_map] at this; omega
  have HS := Lib.hid hsz
  clear hsz
  go_enter Tryz.func229, Tryz.ntmps229
  go_wp2_with (fail)
  go_loopw [5, 10] (fun v i wx => ∃ k : Nat, i = .int .i64 k ∧ k ≤ l.length ∧ wx.ownsRow w.heap.size 9 1 v k ((l.take k).map fun t => Value.string (bs t.b)) ∧ Below w.heap.size w wx) (fun _ i _ => l.length - (intOf i).toNat)
  case atStart => exact ⟨0, rfl, by omega, by simpa using World.ownsRow_nil _ _ _ _, Below.refl _ _⟩
  case round =>
    obtain ⟨k, rfl, hk, hown, hbx⟩ := hrel
    rename World => wx
    by_cases hlt : k < l.length
    · obtain ⟨ad, rfl, had, hcs⟩ := hr.below hbx (by omega)
      obtain ⟨c0, c1⟩ := hcs k hlt
      have hkI : (k : Int) < (l.length : Int) := by omega
      have e1 : wx.cell? ⟨(ad.add (k * 2)).block, (ad.add (k * 2)).off + 1, none⟩ = some (.string l[k].d) := c1
      clear c1
      have hbx1 : ∀ o, Below w.heap.size w (wx.alloc o) := fun o => hbx.alloc hbx.size o
      have hT := fun o => ht.on (hbx1 o)
      have hbt := flat_mem (List.mem_map.2 ⟨l[k], List.getElem_mem hlt, rfl⟩ : l[k].b ∈ l.map Fl.b)
      have hpp := l[k].parts
      have hsz := HS.out
      have FN := fun (o : Obj) => filefn_any l[k].p l[k].d (by omega) (by omega) (wx.alloc o) (hT o)
      have FNH := Lib.hid FN
      have TK : Hid (((l.take (k + 1)).map fun t => Value.string (bs t.b)) = ((l.take k).map fun t => Value.string (bs t.b)) ++ [.string (bs l[k].b)]) := Lib.hid (by rw [List.take_succ_eq_append_getElem hlt, List.map_append]; rfl)
      clear FN hbt hpp hsz hT hcs
      generalize l[k] = t at *
      have hbl : Hid (fileB (tl t.p) (tl t.d) = t.b) := Lib.hid rfl
      have hk9 : k + 1 ≤ 1000000000 := by omega
      go_wp2_with (first | (go_at_call 230; ((with_reducible refine (FNH.out _).mono ?_); rintro e w1 ⟨rfl, hb1⟩; have hbx2 := (hbx1 _).trans (hb1.mono (hbx1 _).size); have hown1 := own_later (hown.alloc _) hb1; have hB := hbx2.size; clear hown)) | (at_builtin; refine append_one rfl (.tmp 14) (.tmp 18) 65 rfl w.heap.size 9 _ 16 Tryz.underlying65 str_info rfl (by decide) _ k _ rfl hown1 (.string (bs (fileB (tl t.p) (tl t.d)))) rfl rfl hk9 hB hbx2 ?_; intro v' w2 hown2 hb2 _))
      go_roundw
      case rel =>
        refine ⟨k + 1, by go_num, by omega, ?_, hb2⟩
        rw [TK.out, ← hbl.out]
        exact hown2
      case measure => simp [intOf]; omega
    · obtain rfl : k = l.length := by omega
      rw [List.take_length] at hown
      obtain ⟨p, m, c', rfl⟩ := own_form hown
      have hm : m = l.length := by
        rcases hown.2 with ⟨h1, h2⟩ | ⟨g, cap, cur, h1, _⟩
        · injection h1; omega
        · injection h1
      subst hm
      have hst : Strs wx wx.heap.size p (l.map fun t => bs t.b) := by
        have := Reads.of_own hown
        unfold Strs
        rw [List.length_map, List.map_map]
        exact this
      have hfl : (((l.map fun t => bs t.b).map tl).flatMap Pk.text).length ≤ 500000000 := by
        rw [show ((l.map fun t => bs t.b).map tl) = l.map Fl.b by rw [List.map_map]; rfl]
        have := HS.out
        omega
      have LC := plist_any p (l.map fun t => bs t.b) c' wx (ht.on hbx) hst hfl
      rw [List.length_map, show ((l.map fun t => bs t.b).map tl) = l.map Fl.b by rw [List.map_map]; rfl] at LC
      have LCH := Lib.hid LC
      clear LC hst hfl hown
      go_wp2_with (go_at_call 97; ((with_reducible refine (LCH.out).mono ?_); rintro e w1 ⟨rfl, hb1⟩))
      go_ret
      exact ⟨rfl, hbx.trans (hb1.mono hbx.size)⟩
theorem kfiles_sz (A : Option Addr) (l : List Fl) (c : Nat) (hsz : ((l.map Fl.b).flatMap Pk.text).length ≤ 100000000) (w : World) (ht : Tab w) (hr : Fls w w.heap.size A l) :
    Calls Tryz.prog 194 #[.slice A l.length c] w fun e w' => e = .returned (.string (bs (Pk.list (l.map Fl.b)))) ∧ Below w.heap.size w w' := by
  have LC := Lib.hid (listedF_any A l c hsz w ht hr)
  go_enter Tryz.func194, Tryz.ntmps194
  go_wp2_with (go_at_call 229; ((with_reducible refine (LC.out).mono ?_); rintro e w1 ⟨rfl, hb1⟩))
  go_ret
  exact ⟨rfl, hb1⟩
theorem kfiles_any (A : Option Addr) (l : List Fl) (c : Nat) (hl : l.length ≤ 60) (hok : ∀ t ∈ l, t.Ok) (w : World) (ht : Tab w) (hr : Fls w w.heap.size A l) :
    Calls Tryz.prog 194 #[.slice A l.length c] w fun e w' => e = .returned (.string (bs (Pk.list (l.map Fl.b)))) ∧ Below w.heap.size w w' :=
  kfiles_sz A l c (by have := Fl.flat_ok hl hok; omega) w ht hr
end Go.Proofs.YtmlaolmaopjhbaaGreatDoor
