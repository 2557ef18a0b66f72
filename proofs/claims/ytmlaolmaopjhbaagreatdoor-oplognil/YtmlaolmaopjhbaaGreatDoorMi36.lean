/- Joined by mkmerged.py: WlOpen. -/
import Derived.Test.YtmlaolmaopjhbaaGreatDoorMi35
import Derived.Test.YtmlaolmaopjhbaaGreatDoorMi20
/- WlOpen, what a claim needs of it (prune.py). -/
namespace Go.Proofs.YtmlaolmaopjhbaaGreatDoor.Wl
open Go.RowKit
open Dk (Dk Fd Kp DkS DkAt read find sync append sz names)
open Cd (own_kp)
set_option linter.unusedVariables false
set_option maxRecDepth 100000
theorem results_tmp4 {fn : Func} {t u v x : Tmp} (h : fn.results = #[.tmp t, .tmp u, .tmp v, .tmp x]) (tmps : Array Value) (P : Program) (w : World) :
    (results fn tmps).run P w = .ok (.tuple #[tmps.getD t undef, tmps.getD u undef, tmps.getD v undef, tmps.getD x undef]) w := by
  simp [results, h]
def state : B := [115, 116, 97, 116, 101]
def run (own : List B) (d : Dk) : Nat → Dk × List B × Nat
  | 0 => (d, [], 0)
  | k + 1 => ((take (run own d k).1 (own.getD k [])).2, (run own d k).2.1 ++ (take (run own d k).1 (own.getD k [])).1.1, if 0 < (take (run own d k).1 (own.getD k [])).1.2.1 then k + 1 else k)
theorem frames_len (l : B) : (frames l).1.length ≤ l.length := by
  induction h : l.length using Nat.strongRecOn generalizing l with
  | _ n ih =>
    subst h
    rcases hn : Pk.nxt l with c | ⟨a, q⟩
    · rw [frames_bad hn]; simp
    · rcases hn2 : Pk.nxt q with c | ⟨s, r⟩
      · rw [frames_bad2 hn hn2]; simp
      · rw [frames_ok hn hn2]
        have h1 := Pk.nxt_lt hn
        have h2 := Pk.nxt_lt hn2
        have := ih r.length (by omega) r rfl
        split
        · simp only [List.length_cons]; omega
        · simp
theorem take_len {d : Dk} {p : B} (h : (read d p).1.length ≤ 1000000) : (take d p).1.1.length ≤ 1000000 := by
  unfold take
  split
  · simp
  · split
    · simp
    · exact Nat.le_trans (frames_len _) h
theorem run_len {own : List B} {d : Dk} (hz : ∀ k < own.length, (read (run own d k).1 (own.getD k [])).1.length ≤ 1000000) : ∀ k ≤ own.length, (run own d k).2.1.length ≤ k * 1000000
  | 0, _ => by simp [run]
  | k + 1, hk => by
    have h1 := run_len hz k (by omega)
    have h2 := take_len (hz k (by omega))
    show ((run own d k).2.1 ++ (take (run own d k).1 (own.getD k [])).1.1).length ≤ _
    rw [List.length_append]
    omega
theorem run_part {own : List B} {d : Dk} : ∀ k, (run own d k).2.2 ≤ k
  | 0 => Nat.le_refl _
  | k + 1 => by
    show (if 0 < (take (run own d k).1 (own.getD k [])).1.2.1 then k + 1 else k) ≤ k + 1
    split <;> omega
def Rw (l : List B) (g : Nat) (p : Option Addr) (w : World) : Prop := ∀ k (hk : k < l.length), ∃ ad, p = some ad ∧ ad.block = g ∧ w.cell? (ad.add k) = some (.string (bs l[k]))
theorem Rw.keep {l : List B} {g : Nat} {p : Option Addr} {w w' : World} (h : Rw l g p w) (hk : l ≠ [] → w'.heap[g]? = w.heap[g]?) : Rw l g p w' := fun k hk' => by
  obtain ⟨ad, e, hb, hc⟩ := h k hk'
  exact ⟨ad, e, hb, (World.cell?_of_block (by rw [block_of_add, hb]; exact hk (fun e => by rw [e] at hk'; simp at hk'))).trans hc⟩
theorem rw_own {l : List B} {w : World} {B0 c : Nat} {p : Option Addr} (h : w.ownsRow B0 9 1 (.slice p l.length c) l.length (strs l)) : ∃ g, B0 ≤ g ∧ (l ≠ [] → g < w.heap.size) ∧ Rw l g p w := by
  have hr := Reads.of_own h
  rcases h.2 with ⟨_, h0⟩ | ⟨g, cap, cur, hv, hg, hc, _⟩
  · have : l = [] := List.eq_nil_of_length_eq_zero h0
    exact ⟨B0, Nat.le_refl _, fun e => absurd this e, fun k hk => by rw [this] at hk; simp at hk⟩
  · injection hv with hv _ _
    subst hv
    refine ⟨g, hg, fun _ => lt_heap hc, fun k hk => ?_⟩
    obtain ⟨ad, e, _, hc'⟩ := hr.2 (by omega)
    injection e with e
    subst e
    exact ⟨_, rfl, rfl, hc' k _ (by simp [hk])⟩
structure LS (W : World) (B0 b m bl g3 nn : Nat) (own : List B) (p3 : Option Addr) (d : Dk) (out : List B) (part : Nat) (v : Value) (w : World) : Prop where
  row : w.ownsRow B0 9 1 v out.length (strs out)
  dk : DkAt w b m nn d
  log : LogAt w bl b ⟨0, part, 0, false⟩
  rw : Rw own g3 p3 w
  fr : Kp (DkS b m) W w
  sz : B0 ≤ w.heap.size
theorem LS.set {W : World} {B0 b m bl g3 nn : Nat} {own : List B} {p3 : Option Addr} {d : Dk} {out : List B} {part : Nat} {v : Value} {w : World} (h : LS W B0 b m bl g3 nn own p3 d out part v w) (h1 : bl < B0) (h2 : g3 ≠ bl) (h3 : W.heap.size ≤ bl) (p : Nat) : LS W B0 b m bl g3 nn own p3 d out p v (w.setCell ⟨bl, 2, none⟩ (.int .i64 (p : Int))) := by
  have hne := h.log.ne h.dk
  exact ⟨own_far h.row h1 2 _, h.dk.keep (heap_set_ne hne.1) (heap_set_ne hne.2), ⟨(heap_set h.log.st).trans rfl⟩, h.rw.keep (fun _ => heap_set_ne (fun e => h2 e.symm)), h.fr.grown (r := some bl) (grown_set (grown_of_below (Below.refl _ _) _) (.inr rfl) _ _) (fun k e => by injection e with e; subst e; exact .inr h3), by simpa using h.sz⟩
theorem LS.step {W : World} {B0 b m bl g3 nn nn' : Nat} {own : List B} {p3 : Option Addr} {d d' : Dk} {out ins : List B} {part : Nat} {v v' : Value} {w w1 w2 : World} (h : LS W B0 b m bl g3 nn own p3 d out part v w) (hb : b < W.heap.size) (hm : m < W.heap.size) (h1 : bl < B0) (h3 : W.heap.size ≤ bl) (hg : W.heap.size ≤ g3) (hg' : own ≠ [] → g3 < B0) (hd : DkAt w1 b m nn' d') (hk : Kp (DkS b m) w w1) (ho : w2.ownsRow B0 9 1 v' (out ++ ins).length (strs (out ++ ins))) (hgr : w1.grownBy w2 v.ownBlock) : LS W B0 b m bl g3 nn' own p3 d' (out ++ ins) part v' w2 := by
  have hB : ∀ g, v.ownBlock = some g → B0 ≤ g := fun g e => (h.row.lt g e).1
  have hWB : W.heap.size ≤ B0 := by omega
  have keep : ∀ k, k < B0 → k < w1.heap.size → w2.heap[k]? = w1.heap[k]? := fun k h1 h2 => hgr.block k h2 (fun e => by have := hB k e.symm; omega)
  have h01 : B0 ≤ w1.heap.size := Nat.le_trans h.sz hk.size
  have hl1 := h.log.kp hk (h.log.notS h.dk)
  refine ⟨ho, hd.keep (keep b (by omega) (by omega)) (keep m (by omega) (by omega)), ⟨(keep bl h1 (by omega)).trans hl1.st⟩, h.rw.keep (fun hne => (keep g3 (hg' hne) (by have := hg' hne; omega)).trans (hk.block g3 (by have := hg' hne; have := h.sz; omega) (fun e => by rcases e with e | e <;> omega))), ?_, Nat.le_trans h01 hgr.size⟩
  exact (h.fr.trans hk).grown hgr (fun k e => .inr (by have := hB k e; omega))
def OpenSays (b m nn : Nat) (d : Dk) (own : List B) (W : World) (e : Ending) (w' : World) : Prop :=
  (∃ bl A c, e = .returned (.tuple #[.pointer (some ⟨bl, 0, none⟩), .string ⟨#[]⟩, .slice A (run own d own.length).2.1.length c, .int .i64 0]) ∧ W.heap.size ≤ bl ∧ w'.ownsRow (bl + 1) 9 1 (.slice A (run own d own.length).2.1.length c) (run own d own.length).2.1.length (strs (run own d own.length).2.1) ∧ LogAt w' bl b ⟨0, (run own d own.length).2.2, (run own d own.length).2.1.length, false⟩) ∧
    DkAt w' b m (nn + own.length) (run own d own.length).1 ∧ Kp (DkS b m) W w'
theorem state_ok : (bs state).size ≤ maxLen := by rw [bs_size]; decide
theorem str_ne {n : B} (h : n ≠ state) : ((bs n).toList == [115, 116, 97, 116, 101]) = false ∧ ¬ (bs n).toList = [115, 116, 97, 116, 101] := by
  have h1 : (bs n).toList = n := by rw [Lib.toList_data]; rfl
  rw [h1]
  exact ⟨by simpa [state] using h, h⟩
set_option maxHeartbeats 8000000 in
theorem popen_any (b m nn : Nat) (d : Dk) (W : World) (hD : DkAt W b m nn d) (hdead : d.dead = false) (hst : (read d state).2 ≠ 0) (hall : ∀ n ∈ names d, n ≠ state ∧ n ∈ parts d 0) (hL : d.l.length ≤ 1000000) (hnn : nn ≤ 1000000) (hok : ∀ k < (parts d 0).length, (take (run (parts d 0) d k).1 ((parts d 0).getD k [])).1.2.2 = 0) (hz : ∀ k < (parts d 0).length, (read (run (parts d 0) d k).1 ((parts d 0).getD k [])).1.length ≤ 1000000) (hps : ∀ p ∈ parts d 0, p.length ≤ 1000) (hpl : (parts d 0).length ≤ 1000000) (ht : Tab W) :
    Calls Tryz.prog 26 #[.pointer (some ⟨b, 0, none⟩)] W (OpenSays b m nn d (parts d 0) W) := by
  obtain ⟨W1, eW⟩ : ∃ W1, W1 = W.alloc (.cells #[.pointer (some ⟨b, 0, none⟩), .int .i64 0, .int .i64 0, .int .i64 0, .bool false] 109) := ⟨_, rfl⟩
  have B1 : Below W.heap.size W W1 := by rw [eW]; exact (Below.refl _ _).alloc (Nat.le_refl _) _
  have L1 : LogAt W1 W.heap.size b ⟨0, 0, 0, false⟩ := ⟨by rw [eW]; exact heap_alloc_new _ _⟩
  have hlt1 := L1.lt
  have hb := Lg.lt_heap hD.st
  have hm := hD.map.lt
  obtain ⟨own, hown⟩ : ∃ own, own = parts d 0 := ⟨_, rfl⟩
  have hol : own.length ≤ 1000000 := by rw [hown]; exact hpl
  have DE : Hid (Calls Tryz.prog 62 #[.pointer (some ⟨b, 0, none⟩)] W fun e w' => e = .returned (.bool false) ∧ W = w') := Lib.hid (by have := Dk.pdead_any b m nn d W hD; rw [hdead] at this; exact this)
  obtain ⟨es, hes⟩ : ∃ es, es = (read d state).2 := ⟨_, rfl⟩
  obtain ⟨ds, hds⟩ : ∃ ds, ds = (read d state).1 := ⟨_, rfl⟩
  have RS : Hid (Calls Tryz.prog 63 #[.pointer (some ⟨b, 0, none⟩), .string ⟨#[115, 116, 97, 116, 101]⟩] W1 fun e w' => e = .returned (.tuple #[.string (bs ds), .int .i64 es]) ∧ Below W1.heap.size W1 w') := Lib.hid (by rw [hes, hds]; exact Dk.pread_any b m nn d (bs state) W1 (hD.below B1) state_ok)
  have PA : Hid (∀ w2, Below W1.heap.size W1 w2 → Calls Tryz.prog 65 #[.pointer (some ⟨b, 0, none⟩), .int .i64 0] w2 fun e w' => ∃ v, e = .returned v ∧ w'.ownsRow w2.heap.size 9 1 v own.length (strs own) ∧ Below w2.heap.size w2 w') := Lib.hid fun w2 h2 => by rw [hown]; exact parts_any b m nn d 0 w2 ((hD.below B1).below h2) (by omega) hL ((ht.on B1).on h2)
  have NA : Hid (∀ w3, Below W1.heap.size W1 w3 → Calls Tryz.prog 44 #[.pointer (some ⟨b, 0, none⟩)] w3 fun e w' => ∃ v, e = .returned v ∧ w'.ownsRow w3.heap.size 9 1 v (names d).length (strs (names d)) ∧ Below w3.heap.size w3 w') := Lib.hid fun w3 h3 => Dk.pnames_any b m nn d w3 ((hD.below B1).below h3) hnn
  have CO : Hid (∀ w4 A c (q : B), Reads w4 w4.heap.size 1 A own.length (strs own) → Calls Tryz.prog 66 #[.slice A own.length c, .string (bs q)] w4 fun e w' => e = .returned (.bool (decide (q ∈ own))) ∧ w4 = w') := Lib.hid fun w4 A c q hr => Bx.contains_any A own c q w4 hr (by omega)
  have TK : Hid (∀ k (hk : k < own.length) w5, DkAt w5 b m (nn + k) (run own d k).1 → (∃ x, LogAt w5 W.heap.size b x) → Calls Tryz.prog 68 #[.pointer (some ⟨W.heap.size, 0, none⟩), .string (bs own[k])] w5 fun e w' => (∃ A c, e = .returned (.tuple #[.slice A (take (run own d k).1 own[k]).1.1.length c, .int .i64 ((take (run own d k).1 own[k]).1.2.1 : Int), .int .i64 0]) ∧ w'.ownsRow w5.heap.size 9 1 (.slice A (take (run own d k).1 own[k]).1.1.length c) (take (run own d k).1 own[k]).1.1.length (strs (take (run own d k).1 own[k]).1.1)) ∧ DkAt w' b m (nn + (k + 1)) (take (run own d k).1 own[k]).2 ∧ Kp (DkS b m) w5 w') := Lib.hid fun k hk w5 hD5 hG => by
    obtain ⟨x, hG⟩ := hG
    have hget : own.getD k [] = own[k] := by rw [List.getD_eq_getElem?_getD, List.getElem?_eq_getElem hk]; rfl
    have h1 := hok k (by rw [← hown]; exact hk)
    have h2 := hz k (by rw [← hown]; exact hk)
    rw [← hown, hget] at h1 h2
    have h3 := hps own[k] (by rw [← hown]; exact List.getElem_mem hk)
    refine (take_any b m (nn + k) W.heap.size (run own d k).1 x (bs own[k]) w5 hD5 hG (by rw [bs_size]; unfold maxLen; omega) (by rw [← hown] at hpl; unfold maxLen; omega) h2).mono ?_
    rintro e w' ⟨⟨v, he, ho⟩, hd, hk'⟩
    have ho' : w'.ownsRow w5.heap.size 9 1 v (take (run own d k).1 own[k]).1.1.length (strs (take (run own d k).1 own[k]).1.1) := ho
    have he' : e = .returned (.tuple #[v, .int .i64 ((take (run own d k).1 own[k]).1.2.1 : Int), .int .i64 (take (run own d k).1 own[k]).1.2.2]) := he
    rw [h1] at he'
    obtain ⟨A, mm, c, rfl⟩ := own_form ho'
    obtain rfl := own_len ho'
    exact ⟨⟨A, c, he', ho'⟩, hd, hk'⟩
  have hall' : Hid (∀ k (hk : k < (names d).length), (names d)[k] ≠ state ∧ decide ((names d)[k] ∈ own) = true) := Lib.hid fun k hk => by
    have := hall _ (List.getElem_mem hk)
    rw [← hown] at this
    exact ⟨this.1, by simpa using this.2⟩
  have RL : Hid (∀ k ≤ own.length, (run own d k).2.1.length ≤ k * 1000000) := Lib.hid (by rw [hown]; exact run_len hz)
  have hnl : (names d).length ≤ 1000000 := by unfold names; rw [List.length_map]; exact hL
  have D1 := hD.below B1
  rw [← hown]
  have ne1 : (es == 0) = false := by rw [hes]; simpa using hst
  have HD1 := Lib.hid D1
  have HL1 := Lib.hid L1
  have HB1 := Lib.hid B1
  have c1 : W1.cell? ⟨W.heap.size, 1, none⟩ = some (.int .i64 0) := (cell_heap L1.st 1).trans rfl
  clear hD hdead hst hall hok hz hps hpl ht D1 L1 B1 hes hds hL hown
  generalize names d = nm at *
  go_enter Tryz.func26, Tryz.ntmps26
  go_wp2_with (first
    | (go_at_call 62; (with_reducible refine (DE.out).mono ?_); rintro e w' ⟨rfl, rfl⟩)
    | (go_at_call 63; rw [← eW]; clear eW; (with_reducible refine (RS.out).mono ?_); rintro e w2 ⟨rfl, hb2⟩; have c2 := (hb2.cell (p := ⟨W.heap.size, 1, none⟩) hlt1).trans c1)
    | (go_at_call 65; (with_reducible refine (PA.out _ hb2).mono ?_); rintro e w3 ⟨v3, rfl, ho3, hb3⟩; have hb13 := hb2.trans (hb3.mono hb2.size); obtain ⟨p3, m3, k3, rfl⟩ := own_form ho3; have hm3 := own_len ho3; subst hm3)
    | (go_at_call 44; (with_reducible refine (NA.out _ hb13).mono ?_); rintro e w4 ⟨v4, rfl, ho4, hb4⟩; have hb14 := hb13.trans (hb4.mono hb13.size); obtain ⟨p4, m4, k4, rfl⟩ := own_form ho4; have hm4 := own_len ho4; subst hm4))
  obtain ⟨g4, hg4, hl4, R4⟩ := rw_own ho4
  obtain ⟨g3, hg3, hl3, R3⟩ := rw_own (own_later ho3 hb4)
  have RDO := Lib.hid (Reads.of_own (own_later ho3 hb4))
  have hl3' : own ≠ [] → g3 < w4.heap.size := hl3
  have hsz2 : W.heap.size < w2.heap.size := Nat.lt_of_lt_of_le hlt1 hb2.size
  have hsz4 : w2.heap.size ≤ w4.heap.size := Nat.le_trans hb3.size hb4.size
  have H14 := Lib.hid hb14
  clear ho3 ho4 hl3 hl4 hb14 hb13 hb2 hb3 hb4 c1 c2 DE RS PA NA
  go_loopw [57] (fun i wx => ∃ k : Nat, i = .int .i64 k ∧ k ≤ nm.length ∧ w4 = wx) (fun i _ => nm.length - (intOf i).toNat)
  case atStart => exact ⟨0, rfl, by omega, rfl⟩
  case round =>
    obtain ⟨k, rfl, hk, rfl⟩ := hrel
    by_cases hlt : k < nm.length
    · obtain ⟨ad, rfl, _, hc⟩ := R4 k hlt
      obtain ⟨hns, hin⟩ := hall'.out k hlt
      have C := Lib.hid (CO.out w4 p3 k3 nm[k] RDO.out)
      rw [hin] at C
      obtain ⟨s1, s2⟩ := str_ne hns
      have hkI : (k : Int) < (nm.length : Int) := by omega
      clear hns hin CO R4 TK
      generalize bs nm[k] = q at *
      go_wp2_with (go_at_call 66; (with_reducible refine (C.out).mono ?_); rintro e w' ⟨rfl, rfl⟩)
      go_roundw
      case rel => exact ⟨k + 1, by go_num, by omega, by first | rfl | trivial⟩
      case measure => simp [intOf]; omega
    · obtain rfl : k = nm.length := by omega
      clear CO R4 hall' RDO
      have z0 := run_part (own := own) (d := d)
      go_wp2_with (fail)
      go_loopw [15, 77] (fun v i wx => ∃ k : Nat, i = .int .i64 k ∧ k ≤ own.length ∧ LS W w4.heap.size b m W.heap.size g3 (nn + k) own p3 (run own d k).1 (run own d k).2.1 (run own d k).2.2 v wx) (fun _ i _ => own.length - (intOf i).toNat)
      case atStart => exact ⟨0, rfl, by omega, World.ownsRow_nil _ _ _ _, HD1.out.below H14.out, HL1.out.below H14.out, R3, (Kp.of_below HB1.out).then H14.out, Nat.le_refl _⟩
      case round =>
        obtain ⟨k, rfl, hk, hL⟩ := hrel
        rename World => wx
        by_cases hlt : k < own.length
        · have hget : own.getD k [] = own[k] := by rw [List.getD_eq_getElem?_getD, List.getElem?_eq_getElem hlt]; rfl
          obtain ⟨ad, rfl, hadb, hc⟩ := hL.rw k hlt
          have T := Lib.hid (TK.out k hlt wx hL.dk ⟨_, hL.log⟩)
          have l1 := RL.out k hk
          have l2 := RL.out (k + 1) hlt
          have RS : Hid (run own d (k + 1) = ((take (run own d k).1 own[k]).2, (run own d k).2.1 ++ (take (run own d k).1 own[k]).1.1, if 0 < (take (run own d k).1 own[k]).1.2.1 then k + 1 else k)) := Lib.hid (by rw [run, hget])
          rw [RS.out] at l2
          simp only [List.length_append] at l2
          have hkI : (k : Int) < (own.length : Int) := by omega
          have hLL := Lib.hid hL
          obtain ⟨pv, mv, cv, rfl⟩ := own_form hL.row
          have hmv := own_len hL.row
          subst hmv
          have hne : own ≠ [] := fun e => by rw [e] at hlt; simp at hlt
          have hg3B := hl3' hne
          have OK : Hid (∀ w1, Kp (DkS b m) wx w1 → w1.ownsRow w4.heap.size 9 1 (.slice pv (run own d k).2.1.length cv) (run own d k).2.1.length (strs (run own d k).2.1)) := Lib.hid fun w1 hk1 => own_kp hLL.out.row hk1 (fun i hi => by rcases hi with e | e <;> omega)
          have hB4 : w4.heap.size ≤ wx.heap.size := hL.sz
          obtain ⟨zs, hi, hz0, hz1, hz2⟩ := Lg.info_parts (@Lg.infoS)
          have ONE : Hid (∀ l : List B, ∀ u ∈ strs l, u.oneCell' = true) := Lib.hid fun l u hu => by
            obtain ⟨t, _, rfl⟩ := List.mem_map.1 hu
            rfl
          generalize take (run own d k).1 own[k] = tk at *
          generalize bs own[k] = q at *
          generalize hout : (run own d k).2.1 = out at *
          generalize hpart : (run own d k).2.2 = part at *
          generalize hdk : (run own d k).1 = dk at *
          have PM : Hid (∀ (w2 : World) (v' : Value), w2.ownsRow w4.heap.size 9 1 v' (out.length + tk.1.1.length) (strs out ++ strs tk.1.1) → w2.ownsRow w4.heap.size 9 1 v' (out ++ tk.1.1).length (strs (out ++ tk.1.1))) := Lib.hid fun w2 v' h => by
            rw [List.length_append, show strs (out ++ tk.1.1) = strs out ++ strs tk.1.1 from List.map_append]
            exact h
          have ST : Hid (∀ (w1 w2 : World) (v' : Value), DkAt w1 b m (nn + (k + 1)) tk.2 → Kp (DkS b m) wx w1 → w2.ownsRow w4.heap.size 9 1 v' (out.length + tk.1.1.length) (strs out ++ strs tk.1.1) → w1.grownBy w2 (Value.slice pv out.length cv).ownBlock → LS W w4.heap.size b m W.heap.size g3 (nn + (k + 1)) own (some ad) tk.2 (out ++ tk.1.1) part v' w2) := Lib.hid fun w1 w2 v' h1 h2 h3 h4 => hLL.out.step hb hm (by omega) (Nat.le_refl _) (by omega) hl3' h1 h2 (PM.out _ _ h3) h4
          have CEL : Hid (∀ (w2 : World) (v' : Value), LS W w4.heap.size b m W.heap.size g3 (nn + (k + 1)) own (some ad) tk.2 (out ++ tk.1.1) part v' w2 → w2.cell? ⟨W.heap.size, 2, none⟩ = some (.int .i64 (part : Int)) ∧ w2.frozen? ⟨W.heap.size, 2, none⟩ = false ∧ (w2.setCell ⟨W.heap.size, 2, none⟩ (.int .i64 (k : Int))).cell? ⟨W.heap.size, 2, none⟩ = some (.int .i64 (k : Int)) ∧ (w2.setCell ⟨W.heap.size, 2, none⟩ (.int .i64 (k : Int))).frozen? ⟨W.heap.size, 2, none⟩ = false ∧ LS W w4.heap.size b m W.heap.size g3 (nn + (k + 1)) own (some ad) tk.2 (out ++ tk.1.1) k v' (w2.setCell ⟨W.heap.size, 2, none⟩ (.int .i64 (k : Int)))) := Lib.hid fun w2 v' h => by
            have h2 := h.set (by omega) (by omega) (Nat.le_refl _) k
            exact ⟨(cell_heap h.log.st 2).trans rfl, frozen_heap h.log.st 2, (cell_heap h2.log.st 2).trans rfl, frozen_heap h2.log.st 2, h2⟩
          have SET : Hid (∀ (w3 : World) (v' : Value), LS W w4.heap.size b m W.heap.size g3 (nn + (k + 1)) own (some ad) tk.2 (out ++ tk.1.1) k v' w3 → LS W w4.heap.size b m W.heap.size g3 (nn + (k + 1)) own (some ad) tk.2 (out ++ tk.1.1) (k + 1) v' (w3.setCell ⟨W.heap.size, 2, none⟩ (.int .i64 ((k + 1 : Nat) : Int)))) := Lib.hid fun w3 v' h => h.set (by omega) (by omega) (Nat.le_refl _) (k + 1)
          have hkm : k ≤ 1000000 := by omega
          have HLT := Lib.hid hlt
          clear hL hget TK RL hout hpart hdk hne hlt hadb PM hLL hlt1 hsz2 hsz4 hg3 hg4 hg3B z0
          by_cases hr : 0 < tk.1.2.1
          · have hrI : (0 : Int) < (tk.1.2.1 : Int) := by omega
            rw [if_pos hr] at RS
            clear hr
            generalize tk.1.2.1 = rest at *
            go_wp2_with (first
              | (go_at_call 68; (with_reducible refine (T.out).mono ?_); rintro e w1 ⟨⟨A, c, rfl, hin⟩, hd1, hk1⟩; have hown1 := OK.out _ hk1; have hr1 := Reads.of_own hin; have hB1 := Nat.le_trans hB4 hk1.size)
              | (at_builtin; refine wpList_append_any _ rfl (.tmp 92) (.tmp 93) 65 rfl w4.heap.size 9 zs (.string ⟨#[]⟩) 1 16 Tryz.underlying65 hi hz0 hz1 hz2 rfl (by decide) (.slice pv out.length cv) out.length (strs out) rfl hown1 w1.heap.size A tk.1.1.length c (strs tk.1.1) rfl hr1 (ONE.out _) (by simp only [maxLen]; omega) (by omega) hB1 ?_; intro v' w2 hown2 hgr2 hat2; obtain ⟨y2, f2, y3, f3, hS3⟩ := CEL.out w2 v' (ST.out w1 w2 v' hd1 hk1 hown2 hgr2); have HS3 := Lib.hid hS3; clear hS3 hown2 hgr2 hat2 hd1 hk1 hown1 hr1 hin))
            go_roundw
            case rel =>
              refine ⟨k + 1, by go_num, HLT.out, ?_⟩
              rw [RS.out]
              exact SET.out _ _ HS3.out
            case measure =>
              have := HLT.out
              simp [intOf]; omega
          · have hrI : ¬ (0 : Int) < (tk.1.2.1 : Int) := by omega
            rw [if_neg hr] at RS
            clear hr
            generalize tk.1.2.1 = rest at *
            go_wp2_with (first
              | (go_at_call 68; (with_reducible refine (T.out).mono ?_); rintro e w1 ⟨⟨A, c, rfl, hin⟩, hd1, hk1⟩; have hown1 := OK.out _ hk1; have hr1 := Reads.of_own hin; have hB1 := Nat.le_trans hB4 hk1.size)
              | (at_builtin; refine wpList_append_any _ rfl (.tmp 92) (.tmp 93) 65 rfl w4.heap.size 9 zs (.string ⟨#[]⟩) 1 16 Tryz.underlying65 hi hz0 hz1 hz2 rfl (by decide) (.slice pv out.length cv) out.length (strs out) rfl hown1 w1.heap.size A tk.1.1.length c (strs tk.1.1) rfl hr1 (ONE.out _) (by simp only [maxLen]; omega) (by omega) hB1 ?_; intro v' w2 hown2 hgr2 hat2; obtain ⟨y2, f2, y3, f3, hS3⟩ := CEL.out w2 v' (ST.out w1 w2 v' hd1 hk1 hown2 hgr2); have HS3 := Lib.hid hS3; clear hS3 hown2 hgr2 hat2 hd1 hk1 hown1 hr1 hin))
            go_roundw
            case rel =>
              refine ⟨k + 1, by go_num, HLT.out, ?_⟩
              rw [RS.out]
              exact HS3.out
            case measure =>
              have := HLT.out
              simp [intOf]; omega
        · obtain rfl : k = own.length := by omega
          obtain ⟨pv, mv, cv, rfl⟩ := own_form hL.row
          have hmv := own_len hL.row
          subst hmv
          have y3 : wx.cell? ⟨W.heap.size, 3, none⟩ = some (.int .i64 0) := (cell_heap hL.log.st 3).trans rfl
          have f3 := frozen_heap hL.log.st 3
          have FN : Hid (OpenSays b m nn d own W (.returned (.tuple #[.pointer (some ⟨W.heap.size, 0, none⟩), .string ⟨#[]⟩, .slice pv (run own d own.length).2.1.length cv, .int .i64 0])) (wx.setCell ⟨W.heap.size, 3, none⟩ (.int .i64 ((run own d own.length).2.1.length : Int)))) := Lib.hid (by
            have hne := hL.log.ne hL.dk
            refine ⟨⟨W.heap.size, pv, cv, rfl, Nat.le_refl _, own_base (own_far hL.row (by omega) 3 _) (by omega), ⟨(heap_set hL.log.st).trans rfl⟩⟩, hL.dk.keep (heap_set_ne hne.1) (heap_set_ne hne.2), hL.fr.grown (r := some W.heap.size) (grown_set (grown_of_below (Below.refl _ _) _) (.inr rfl) _ _) (fun k e => by injection e with e; subst e; exact .inr (Nat.le_refl _))⟩)
          clear hL TK RL z0
          generalize OpenSays b m nn d own W = Q at *
          generalize (run own d own.length).2.1 = out at *
          go_wp2_with (fail)
          (try simp only [Exit.inBlock, Exit.then])
          refine bodyPost_ret (results_tmp4 rfl _ _ _) rfl ?_
          exact FN.out
end Go.Proofs.YtmlaolmaopjhbaaGreatDoor.Wl
