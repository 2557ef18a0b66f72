/- Joined by mkmerged.py: FsDir, FsCode, FsRefP. -/
import Derived.Test.YtlndnpfjneeeeaaGreatDoorMh14
import Derived.Test.YtlndnpfjneeeeaaGreatDoorMh05
import Derived.Deep.Cut
import Derived.Test.YtlndnpfjneeeeaaGreatDoorMh13
import Derived.Test.YtlndnpfjneeeeaaGreatDoorMh10
import Derived.Test.YtlndnpfjneeeeaaGreatDoorMh03
import Derived.IntWalk
import Derived.Test.YtlndnpfjneeeeaaGreatDoorMhKm
/- FsDir, what a claim needs of it (prune.py). -/
namespace Go.Proofs.YtlndnpfjneeeeaaGreatDoor.Fs
open Go.RowKit
set_option linter.unusedVariables false
set_option maxRecDepth 100000
theorem cuts_any (s : ByteArray) (hs : s.size ≤ 1000000) (w : World) (hE : Env w) :
    Calls Tryz.prog 80 #[.string s, .string ⟨#[47]⟩] w fun e w' => (∃ x y, e = .returned (.tuple #[.string (bs (head (tl s))), x, y])) ∧ Below w.heap.size w w' := by
  obtain ⟨⟨m, hm⟩, _⟩ := hE
  refine (Tryz.strings_Cut s ⟨#[47]⟩ m w (by omega) hm).mono ?_
  rintro e w' ⟨h1, n, rfl⟩
  refine ⟨⟨.string ⟨(Lib.cut (tl s) [47]).2.1.toArray⟩, .bool (Lib.cut (tl s) [47]).2.2, ?_⟩, belowDN (Below.refl _ _) n⟩
  rw [h1, ← cut_head]; rfl
def EntsSay (m : List En) (w : World) (e : Ending) (w' : World) : Prop := (∃ A c, e = .returned (.slice A m.length c) ∧ Ens w' A m) ∧ Below w.heap.size w w'
theorem own_ens {w w0 : World} {v : Value} {m : List En} {n B : Nat} (h : w.ownsRow B 79 3 v n (ec m)) (hn : m.length = n) (hb : Below w0.heap.size w0 w) : EntsSay m w0 (.returned v) w := by
  subst hn
  have hv : ∃ A c, v = .slice A m.length c := by
    rcases h.2 with ⟨rfl, h0⟩ | ⟨g, cap, cur, rfl, hB, hg, h1, _⟩
    · exact ⟨none, 0, by rw [h0]⟩
    · exact ⟨_, _, rfl⟩
  obtain ⟨A, c, rfl⟩ := hv
  exact ⟨⟨A, c, rfl, Reads.of_own h⟩, hb⟩
def EntsOwn (m : List En) (w : World) (e : Ending) (w' : World) : Prop := ∃ v B0, e = .returned v ∧ w.heap.size ≤ B0 ∧ w'.ownsRow B0 79 3 v m.length (ec m) ∧ Below w.heap.size w w'
theorem EntsOwn.say {m : List En} {w w' : World} {e : Ending} (h : EntsOwn m w e w') : EntsSay m w e w' := by
  obtain ⟨v, B0, rfl, _, ho, hb⟩ := h
  exact own_ens ho rfl hb
def DigSays (l : List Fl) (w : World) (e : Ending) (w' : World) : Prop := e = .returned (.string (bs (digest l))) ∧ Below w.heap.size w w'
def heads (l : List Fl) (k : Nat) : List B := (l.take k).map fun f => head (tl f.p)
theorem heads_next {l : List Fl} {k : Nat} (hk : k < l.length) : heads l (k + 1) = heads l k ++ [head (tl l[k].p)] := by
  rw [heads, List.take_succ_eq_append_getElem hk, List.map_append]; rfl
theorem heads_len {l : List Fl} {k : Nat} (hk : k ≤ l.length) : (heads l k).length = k := by simp [heads]; omega
theorem names_heads (l : List Fl) : names l = Lib.compact ((heads l l.length).mergeSort fun x y => decide (x ≤ y)) := by rw [heads, List.take_length]; rfl
theorem reads3_new (w : World) (T : TypeId) (a b c : Value) (g : Nat) (hg : w.heap.size = g) : Reads (w.alloc (.cells #[a, b, c] T)) (w.alloc (.cells #[a, b, c] T)).heap.size 3 (some ⟨g, 0, none⟩) 1 [a, b, c] := by
  subst hg
  exact ⟨rfl, fun _ => ⟨_, rfl, by simp, fun j u hu => by
    rw [Lg.add_eq, Lg.cell_at (heap_alloc_new w _)]
    simpa using hu⟩⟩
theorem three {w : World} {g : Nat} {a b c : Value} {T : TypeId} (h : w.heap[g]? = some (.cells #[a, b, c] T (0, 0))) :
    w.cell? ⟨g, 0, none⟩ = some a ∧ w.cell? ⟨g, 1, none⟩ = some b ∧ w.cell? ⟨g, 2, none⟩ = some c ∧ w.frozen? ⟨g, 0, none⟩ = false ∧ w.frozen? ⟨g, 1, none⟩ = false ∧ w.frozen? ⟨g, 2, none⟩ = false :=
  ⟨cell_of_row w g 0 _ _ _ h, cell_of_row w g 1 _ _ _ h, cell_of_row w g 2 _ _ _ h, frozen_of_row w _ 0 _ _ h, frozen_of_row w _ 1 _ _ h, frozen_of_row w _ 2 _ _ h⟩
set_option maxHeartbeats 4000000 in
theorem pdir_step (A : Option Addr) (l : List Fl) (c : Nat) (p : B) (hp : p.length ≤ 1000000) (w : World) (hE : Env w) (hr : Fls w A l) (hs : Small l)
    (IH : ∀ l', bulk l' < bulk l → Small l' → ∀ A c W, Env W → Fls W A l' → Calls Tryz.prog 84 #[.slice A l'.length c] W (DigSays l' W)) :
    Calls Tryz.prog 32 #[.slice A l.length c, .string (bs p)] w (EntsOwn (dir (at_ l p)) w) := by
  have EV := Lib.hid (fun W (h : Below w.heap.size w W) => hE.below h)
  have UN : Hid (p ≠ [] → Calls Tryz.prog 79 #[.slice A l.length c, .string (bs p)] w (FilesSay (at_ l p) w)) := Lib.hid fun h => by
    have := under_any A l c (bs p) (by rw [bs_len]; omega) w hr hs
    rw [at_ne h]
    exact this
  have LN : Hid (p = [] → at_ l p = l) := Lib.hid fun h => by subst h; exact at_nil l
  have SM := Lib.hid (hs.at_ p)
  have IX : Hid (∀ n, n ∈ names (at_ l p) → ∀ A c W, Env W → Fls W A (under (at_ l p) n) → Calls Tryz.prog 84 #[.slice A (under (at_ l p) n).length c] W (DigSays (under (at_ l p) n) W)) := Lib.hid fun n hn => by
    have h1 := bulk_under_lt n (name_ne hn)
    have h2 := bulk_at l p
    exact IH _ (by omega) ((hs.at_ p).under n)
  have HR := Lib.hid hr
  have EN : Hid (∀ W v B, w.heap.size ≤ B → W.ownsRow B 79 3 v (names (at_ l p)).length (ec (ents (at_ l p) (names (at_ l p)).length)) → Below w.heap.size w W → EntsOwn (dir (at_ l p)) w (.returned v) W) := Lib.hid fun W v B hB h hb => by
    rw [ents_all, ← dir_len] at h
    exact ⟨_, _, rfl, hB, h, hb⟩
  obtain ⟨zs, hi, hz0, hz1, hz2⟩ := Lg.info_parts (@Lg.infoS)
  obtain ⟨ze, hei, hes⟩ := infoE
  obtain ⟨i1, ei, ez0, ez1, ez2⟩ := Lg.info_parts hei
  clear hr hE hs IH hei
  generalize EntsOwn (dir (at_ l p)) w = Q at *
  go_enter Tryz.func32, Tryz.ntmps32
  obtain ⟨b, hb⟩ : ∃ b, (bs p).toList.isEmpty = b := ⟨_, rfl⟩
  go_upto_if 20 with (fail)
  go_cut [5] from 18 to 25 (fun v wx => (∃ A c, v = .slice A (at_ l p).length c ∧ Fls wx A (at_ l p)) ∧ Below w.heap.size w wx)
  case first =>
    cases b
    · have U := Lib.hid (UN.out (fun e => by
        subst e
        have : (bs ([] : B)).toList.isEmpty = true := by rw [Lib.toList_data]; rfl
        rw [this] at hb; cases hb))
      go_wp2_with (go_at_call 79; (with_reducible refine (U.out).mono ?_); rintro e w1 ⟨⟨A1, c1, rfl, hr1, _⟩, hb1⟩; have H1 := Lib.hid hr1; clear hr1)
      go_meet
      exact ⟨⟨A1, c1, rfl, H1.out⟩, hb1⟩
    · have e0 : p = [] := by
        rcases Classical.em (p = []) with h | h
        · exact h
        · rw [bs_ne h] at hb; cases hb
      have L := Lib.hid (LN.out e0)
      go_wp2_with (fail)
      go_meet
      exact ⟨⟨A, c, by rw [L.out], by rw [L.out]; exact HR.out⟩, Below.refl _ _⟩
  case rest =>
    clear UN LN HR hb
    obtain ⟨⟨A1, c1, rfl, hr1⟩, hb1⟩ := hcut
    have hl := SM.out.len
    generalize at_ l p = m at *
    have RD : Hid (∀ W, Below wc.heap.size wc W → Reads W wc.heap.size 2 A1 m.length (fc m)) := Lib.hid fun W hW => hr1.below hW
    have EW : Hid (∀ W, Below wc.heap.size wc W → Env W) := Lib.hid fun W hW => EV.out _ (hb1.trans (hW.mono hb1.size))
    have BW : Hid (∀ W, Below wc.heap.size wc W → Below w.heap.size w W) := Lib.hid fun W hW => hb1.trans (hW.mono hb1.size)
    clear hr1 EV
    go_wp2_with (fail)
    go_loopw [6, 26] (fun v i W => ∃ k : Nat, i = .int .i64 k ∧ k ≤ m.length ∧ W.ownsRow wc.heap.size 9 1 v k ((heads m k).map tv) ∧ Below wc.heap.size wc W) (fun _ i _ => m.length - (intOf i).toNat)
    case atStart => exact ⟨0, rfl, by omega, World.ownsRow_nil _ _ _ _, Below.refl _ _⟩
    case round =>
      obtain ⟨k, rfl, hk, hown, hb⟩ := hrel
      have HO := Lib.hid hown
      clear hown
      by_cases hlt : k < m.length
      · have hkI : (k : Int) < (m.length : Int) := by omega
        obtain ⟨ad, rfl, had, c0, c1⟩ := Fls.at_ (RD.out _ hb) hlt
        have FN := Lib.hid (heads_next hlt)
        have FP := (SM.out.each m[k] (List.getElem_mem hlt)).1
        have hs1 := hb.size
        have q0 := heap_alloc_new wr (.cells #[.string m[k].p, .string m[k].d] 75)
        have b1 : Below wc.heap.size wc (wr.alloc (.cells #[.string m[k].p, .string m[k].d] 75)) := hb.alloc hb.size _
        have CU := Lib.hid (cuts_any m[k].p (by omega) _ (EW.out _ b1))
        have HO1 := Lib.hid (HO.out.alloc (.cells #[.string m[k].p, .string m[k].d] 75))
        have B1 := Lib.hid b1
        clear FP b1 HO
        generalize heads m k = hs at *
        generalize head (tl m[k].p) = h at *
        generalize m[k] = f at *
        go_wp2_with (first
          | (go_at_call 80; ((with_reducible refine (CU.out).mono ?_); rintro e w1 ⟨⟨x, y, rfl⟩, hb2⟩; have HO2 := Lib.hid (own_later HO1.out hb2); have b2 := B1.out.trans (hb2.mono B1.out.size); have hs2 := b2.size))
          | (at_builtin; refine wpList_append_any _ rfl (.tmp 37) (.tmp 39) _ rfl wc.heap.size 9 zs _ 1 16 Tryz.underlying22 hi hz0 hz1 hz2 rfl (by omega) _ k _ rfl (HO2.out.alloc _) _ (some ⟨w1.heap.size, 0, none⟩) 1 1 [.string (bs h)] rfl (Lg.reads_one (Lg.heap_new w1 _)) (Lg.mem1 rfl) (by simp only [maxLen]; omega) (by omega) (b2.alloc hs2 _).size ?_; intro v' w2 hown2 hg2 hat2))
        go_roundw
        case rel =>
          refine ⟨k + 1, by go_num, by omega, ?_, (b2.alloc hs2 _).grown hg2 (b2.alloc hs2 _).size ?_⟩
          · rw [FN.out, List.map_append]; exact hown2
          · intro g hg
            exact (HO2.out.lt g hg).1
        case measure => simp [intOf]; omega
      · obtain rfl : k = m.length := by omega
        have NH := Lib.hid (names_heads m)
        have HL := Lib.hid (heads_len (l := m) (Nat.le_refl _))
        generalize heads m m.length = hs at *
        have ST := Lib.hid (sort_any _ _ _ hs _ HO.out HL.out (by have := HL.out; omega))
        go_wp2_with (first
          | (go_at_call 81; (with_reducible refine (ST.out).mono ?_); rintro e w2 ⟨rfl, hown2, hg2⟩; have CO : Hid (Calls Tryz.prog 82 #[u6] w2 (CompactSays u6 (names m) w2)) := Lib.hid (by rw [NH.out]; exact compact_any _ _ _ _ _ hown2 (by rw [(List.mergeSort_perm _ _).length_eq]; exact HL.out) (by rw [(List.mergeSort_perm _ _).length_eq]; have := HL.out; omega)))
          | (go_at_call 82; (with_reducible refine (CO.out).mono ?_); rintro e w3 ⟨A3, c3, rfl, hr3, hg3⟩))
        have hs1 := hb.size
        have b2 : Below wc.heap.size wc w2 := hb.grown hg2 hs1 (fun g hg => (HO.out.lt g hg).1)
        have b3 : Below wc.heap.size wc w3 := b2.grown hg3 b2.size (fun g hg => (HO.out.lt g hg).1)
        have hs3 := b3.size
        have B3 := Lib.hid b3
        have RN : Hid (∀ W, Below w3.heap.size w3 W → Reads W w3.heap.size 1 A3 (names m).length ((names m).map tv)) := Lib.hid fun W hW => hr3.below hW
        have RF : Hid (∀ W, Below w3.heap.size w3 W → Fls W A1 m) := Lib.hid fun W hW => (RD.out _ (b3.trans (hW.mono hs3))).more (by have := hW.size; omega)
        have EX : Hid (∀ W, Below w3.heap.size w3 W → Env W) := Lib.hid fun W hW => EW.out _ (b3.trans (hW.mono hs3))
        have BX : Hid (∀ W, Below w3.heap.size w3 W → Below w.heap.size w W) := Lib.hid fun W hW => BW.out _ (b3.trans (hW.mono hs3))
        have NL := names_len m
        clear hown2 hg2 hr3 hg3 b2 b3 ST CO HO NH HL hb RD EW BW hlt hk
        clear hs
        go_loopw [12, 47] (fun v i W => ∃ k : Nat, i = .int .i64 k ∧ k ≤ (names m).length ∧ W.ownsRow w3.heap.size 79 3 v k (ec (ents m k)) ∧ Below w3.heap.size w3 W) (fun _ i _ => (names m).length - (intOf i).toNat)
        case atStart => exact ⟨0, rfl, by omega, World.ownsRow_nil _ _ _ _, Below.refl _ _⟩
        case round =>
          obtain ⟨k, rfl, hk, hown, hb⟩ := hrel
          have HO := Lib.hid hown
          clear hown
          by_cases hlt : k < (names m).length
          · have hkI : (k : Int) < ((names m).length : Int) := by omega
            obtain ⟨ad, u, rfl, had, hu, c0⟩ := Reads.at_ (RN.out _ hb) hlt
            obtain rfl : u = .string (bs (names m)[k]) := by
              rw [List.getElem?_map, List.getElem?_eq_getElem hlt] at hu
              exact (Option.some.inj hu).symm
            have FN := Lib.hid (ents_next hlt)
            have hmem := List.getElem_mem hlt
            have hnl := name_len SM.out hmem
            have IN := Lib.hid (IX.out _ hmem)
            clear hu hmem
            generalize ents m k = es at *
            generalize (names m)[k] = n at *
            have hs4 := hb.size
            obtain ⟨W0, eW⟩ : ∃ W0, W0 = wr.alloc (.cells #[.string (bs n), .bool false, .string ⟨#[]⟩] 79) := ⟨_, rfl⟩
            have hr0 : Below wr.heap.size wr W0 := by rw [eW]; exact (Below.refl _ _).alloc (Nat.le_refl _) _
            have q0 : W0.heap[wr.heap.size]? = some (.cells #[.string (bs n), .bool false, .string ⟨#[]⟩] 79 (0, 0)) := by rw [eW]; exact heap_alloc_new wr _
            have hz0 : W0.heap.size = wr.heap.size + 1 := by rw [eW]; simp
            have b0 : Below w3.heap.size w3 W0 := hb.trans (hr0.mono hs4)
            have R0 := Lib.hid hr0
            have Q0 : Hid (∀ W, Below W0.heap.size W0 W → W.heap[wr.heap.size]? = some (.cells #[.string (bs n), .bool false, .string ⟨#[]⟩] 79 (0, 0))) := Lib.hid fun W hW => (hW.block _ (by omega)).trans q0
            have GT := Lib.hid (get_any A1 m c1 (bs n) W0 (RF.out _ b0) (by omega))
            have B0 := Lib.hid b0
            have HB := Lib.hid hb
            clear q0 b0 hr0 hb
            cases hg : get m n with
            | some d =>
              have G1 : GetSays m (tl (bs n)) W0 = fun e w' => e = .returned (.tuple #[.string d, .bool true]) ∧ Below W0.heap.size W0 w' := by
                unfold GetSays
                rw [show tl (bs n) = n from rfl, hg]; rfl
              rw [G1] at GT
              obtain ⟨f, hf, rfl⟩ := get_mem hg
              have hd := (SM.out.each f hf).2
              have F := Lib.hid (entry_file hg)
              have SU : Hid (∀ W, Calls Tryz.prog 35 #[.string f.d] W fun e w' => e = .returned (.string (bs (Blk.sum (tl f.d)))) ∧ Below W.heap.size W w') := Lib.hid fun W => sum_any f.d hd W
              clear G1 hg hf hd IN
              generalize Blk.sum (tl f.d) = g at *
              go_wp2_with (first
                | (go_at_call 83; rw [← eW]; (with_reducible refine (GT.out).mono ?_); rintro e w4 ⟨rfl, hb4⟩; clear eW)
                | (go_at_call 35; (with_reducible refine (SU.out _).mono ?_); rintro e w5 ⟨rfl, hb5⟩; have h05 := hb4.trans (hb5.mono hb4.size); have hs5 := h05.size; obtain ⟨d0, d1, d2, f0, f1, f2⟩ := three (Q0.out _ h05); have hr5 := R0.out.trans (h05.mono R0.out.size))
                | (at_builtin; refine wpList_append_any _ rfl (.tmp 69) (.tmp 71) _ rfl w3.heap.size 79 i1 _ 3 40 Tryz.underlying72 ei ez0 ez1 ez2 hes (by omega) _ k _ rfl (own_later HO.out ((hr5.setCell (Nat.le_refl _) _).alloc (by simp; omega) _)) _ (some ⟨w5.heap.size, 0, none⟩) 1 1 [.string (bs n), .bool false, .string (bs g)] rfl (reads3_new _ _ _ _ _ _ (by simp)) (ec_cell [⟨n, false, g⟩]) (by simp only [maxLen]; omega) (by omega) (by simp; omega) ?_; intro v' w6 hown6 hg6 hat6))
              go_roundw
              case rel =>
                refine ⟨k + 1, by go_num, by omega, ?_, Below.grown (HB.out.trans (((hr5.setCell (Nat.le_refl _) _).alloc (by simp; omega) _).mono hs4)) hg6 (by simp; omega) (fun g hg => (HO.out.lt g hg).1)⟩
                rw [FN.out, ec_append, F.out]; exact hown6
              case measure => simp [intOf]; omega
            | none =>
              have G1 : GetSays m (tl (bs n)) W0 = fun e w' => e = .returned (.tuple #[.string ⟨#[]⟩, .bool false]) ∧ Below W0.heap.size W0 w' := by
                unfold GetSays
                rw [show tl (bs n) = n from rfl, hg]; rfl
              rw [G1] at GT
              have F := Lib.hid (entry_dir hg)
              have UD : Hid (∀ W, Below w3.heap.size w3 W → Calls Tryz.prog 79 #[.slice A1 m.length c1, .string (bs n)] W (FilesSay (under m n) W)) := Lib.hid fun W hW => under_any A1 m c1 (bs n) (by rw [bs_len]; omega) W (RF.out _ hW) SM.out
              clear G1 hg
              unfold DigSays at IN
              generalize under m n = un at *
              generalize digest un = g at *
              go_wp2_with (first
                | (go_at_call 83; rw [← eW]; (with_reducible refine (GT.out).mono ?_); rintro e w4 ⟨rfl, hb4⟩; clear eW; have U4 := Lib.hid (UD.out _ (B0.out.trans (hb4.mono B0.out.size))))
                | (go_at_call 79; (with_reducible refine (U4.out).mono ?_); rintro e w7 ⟨⟨A7, c7, rfl, hr7, _⟩, hb7⟩; have D7 := Lib.hid (IN.out A7 c7 w7 (EX.out _ ((B0.out.trans (hb4.mono B0.out.size)).trans (hb7.mono (B0.out.trans (hb4.mono B0.out.size)).size))) hr7); clear hr7)
                | (go_at_call 84; (with_reducible refine (D7.out).mono ?_); rintro e w5 ⟨rfl, hb5⟩; have h05 := (hb4.trans (hb7.mono hb4.size)).trans (hb5.mono (hb4.trans (hb7.mono hb4.size)).size); have hs5 := h05.size; obtain ⟨d0, d1, d2, f0, f1, f2⟩ := three (Q0.out _ h05); have hr5 := R0.out.trans (h05.mono R0.out.size))
                | (at_builtin; refine wpList_append_any _ rfl (.tmp 69) (.tmp 71) _ rfl w3.heap.size 79 i1 _ 3 40 Tryz.underlying72 ei ez0 ez1 ez2 hes (by omega) _ k _ rfl (own_later HO.out (((hr5.setCell (Nat.le_refl _) _).setCell (Nat.le_refl _) _).alloc (by simp; omega) _)) _ (some ⟨w5.heap.size, 0, none⟩) 1 1 [.string (bs n), .bool true, .string (bs g)] rfl (reads3_new _ _ _ _ _ _ (by simp)) (ec_cell [⟨n, true, g⟩]) (by simp only [maxLen]; omega) (by omega) (by simp; omega) ?_; intro v' w6 hown6 hg6 hat6))
              go_roundw
              case rel =>
                refine ⟨k + 1, by go_num, by omega, ?_, Below.grown (HB.out.trans ((((hr5.setCell (Nat.le_refl _) _).setCell (Nat.le_refl _) _).alloc (by simp; omega) _).mono hs4)) hg6 (by simp; omega) (fun g hg => (HO.out.lt g hg).1)⟩
                rw [FN.out, ec_append, F.out]; exact hown6
              case measure => simp [intOf]; omega
          · obtain rfl : k = (names m).length := by omega
            go_wp2_with (fail)
            exact EN.out _ _ _ (BX.out _ (Below.refl _ _)).size HO.out (BX.out _ hb)
theorem text_le (s : B) (h : s.length ≤ 1000000000) : (Pk.text s).length ≤ s.length + 21 := textlen_le (bs s) (by rw [bs_len]; exact h)
theorem entB_le {x : En} (h1 : x.n.length ≤ 1000) (h2 : x.g.length ≤ 1000) : (entB x).length ≤ 2200 := by
  unfold entB
  have t1 := text_le x.n (by omega)
  have t2 := text_le (kind x) (by unfold kind; split <;> simp)
  have t3 := text_le x.g (by omega)
  have hk : (kind x).length = 1 := by unfold kind; split <;> rfl
  have e : ([x.n, kind x, x.g].flatMap Pk.text).length = (Pk.text x.n).length + (Pk.text (kind x)).length + (Pk.text x.g).length := by simp; omega
  have t4 := text_le ([x.n, kind x, x.g].flatMap Pk.text) (by omega)
  unfold Pk.list
  omega
theorem bytesE_le : ∀ {l : List En}, (∀ x ∈ l, x.n.length ≤ 1000 ∧ x.g.length ≤ 1000) → (bytesE l).length ≤ l.length * 2200
  | [], _ => by simp [bytesE]
  | x :: l, h => by
    have ih := bytesE_le (l := l) fun y hy => h y (List.mem_cons_of_mem _ hy)
    have h0 := h x (by simp)
    have h1 := entB_le h0.1 h0.2
    rw [bytesE_eq, List.flatMap_cons, List.length_append, List.length_cons]
    rw [bytesE_eq] at ih
    omega
theorem entry_g (l : List Fl) (n : B) : (entry l n).g.length ≤ 1000 := by
  cases h : get l n with
  | some d => rw [entry_file h]; exact Nat.le_trans (Nat.le_of_eq (Blk.sum_len _)) (by omega)
  | none => rw [entry_dir h]; exact Nat.le_trans (Nat.le_of_eq (Blk.sum_len _)) (by omega)
theorem dir_bytes {l : List Fl} (h : Small l) : (bytesE (dir l)).length ≤ 440000 := by
  have h1 := bytesE_le (l := dir l) fun x hx => by
    rw [dir_map] at hx
    obtain ⟨n, hn, rfl⟩ := List.mem_map.1 hx
    exact ⟨by rw [entry_n]; exact name_len h hn, entry_g l n⟩
  have h2 := dir_len l
  have h3 := names_len l
  have h4 := h.len
  omega
theorem pdig_of {A : Option Addr} {l : List Fl} {c : Nat} {w : World} (hE : Env w) (hs : Small l) (h : Calls Tryz.prog 32 #[.slice A l.length c, .string (bs [])] w (EntsSay (dir (at_ l [])) w)) :
    Calls Tryz.prog 84 #[.slice A l.length c] w (DigSays l w) := by
  have D : Hid (Calls Tryz.prog 32 #[.slice A l.length c, .string ⟨#[]⟩] w (EntsSay (dir l) w)) := Lib.hid (by rw [at_nil] at h; exact h)
  have EV := Lib.hid (fun W (h : Below w.heap.size w W) => hE.below h)
  have hl := dir_bytes hs
  have DG : Hid (Blk.sum (bytesE (dir l)) = digest l) := Lib.hid rfl
  have SU : Hid (∀ W, Calls Tryz.prog 35 #[.string (bs (bytesE (dir l)))] W fun e w' => e = .returned (.string (bs (Blk.sum (bytesE (dir l))))) ∧ Below W.heap.size W w') := Lib.hid fun W => sum_any _ (by rw [bs_len]; omega) W
  have EN : Hid (∀ W, Below w.heap.size w W → DigSays l w (.returned (.string (bs (Blk.sum (bytesE (dir l)))))) W) := Lib.hid fun W hW => ⟨by rw [DG.out], hW⟩
  have BY : Hid (∀ A c W, Below w.heap.size w W → Ens W A (dir l) → Calls Tryz.prog 86 #[.slice A (dir l).length c] W fun e w' => e = .returned (.string (bs (bytesE (dir l)))) ∧ Below W.heap.size W w') := Lib.hid fun A c W hW hr => pbytes_any A (dir l) c W (EV.out _ hW).2 hr (by omega)
  clear h hE DG
  generalize DigSays l w = Q at *
  generalize Blk.sum (bytesE (dir l)) = g at *
  generalize bytesE (dir l) = t at *
  generalize dir l = m at *
  go_enter Tryz.func84, Tryz.ntmps84
  go_wp2_with (first
    | (go_at_call 32; (with_reducible refine (D.out).mono ?_); rintro e w1 ⟨⟨A1, c1, rfl, hr1⟩, hb1⟩; have B1 := Lib.hid (BY.out A1 c1 w1 hb1 hr1); clear hr1)
    | (go_at_call 86; (with_reducible refine (B1.out).mono ?_); rintro e w2 ⟨rfl, hb2⟩)
    | (go_at_call 35; (with_reducible refine (SU.out _).mono ?_); rintro e w3 ⟨rfl, hb3⟩))
  have hb02 := hb1.trans (hb2.mono hb1.size)
  exact EN.out _ (hb02.trans (hb3.mono hb02.size))
theorem pdigest_all : ∀ (n : Nat) (l : List Fl), bulk l < n → Small l → ∀ (A : Option Addr) (c : Nat) (w : World), Env w → Fls w A l → Calls Tryz.prog 84 #[.slice A l.length c] w (DigSays l w)
  | 0, _, h, _, _, _, _, _, _ => absurd h (by omega)
  | n + 1, l, h, hs, A, c, w, hE, hr => pdig_of hE hs ((pdir_step A l c [] (by simp) w hE hr hs fun l' h' => pdigest_all n l' (by omega)).mono fun _ _ h => h.say)
theorem pdigest_any (A : Option Addr) (l : List Fl) (c : Nat) (w : World) (hE : Env w) (hr : Fls w A l) (hs : Small l) :
    Calls Tryz.prog 84 #[.slice A l.length c] w (DigSays l w) := pdigest_all (bulk l + 1) l (by omega) hs A c w hE hr
theorem pdir_any (A : Option Addr) (l : List Fl) (c : Nat) (p : B) (hp : p.length ≤ 1000000) (w : World) (hE : Env w) (hr : Fls w A l) (hs : Small l) :
    Calls Tryz.prog 32 #[.slice A l.length c, .string (bs p)] w (EntsSay (dir (at_ l p)) w) :=
  (pdir_step A l c p hp w hE hr hs fun l' _ hs' A c w hE hr => pdigest_any A l' c w hE hr hs').mono fun _ _ h => h.say
end Go.Proofs.YtlndnpfjneeeeaaGreatDoor.Fs
/- FsCode, what a claim needs of it (prune.py). -/
namespace Go.Proofs.YtlndnpfjneeeeaaGreatDoor.Fs
set_option linter.unusedVariables false
def rightAt (l : List En) (i : Nat) (h : i < l.length) : Prop := Lg.pathOk l[i].n = true ∧ (47 : UInt8) ∉ l[i].n ∧ l[i].g.length = 32 ∧ (0 < i → (l[i - 1]'(by omega)).n < l[i].n)
def Right (l : List En) : Prop := ∀ i (h : i < l.length), rightAt l i h
noncomputable def rightB (l : List En) : Bool := @decide (Right l) (Classical.propDecidable _)
theorem rightB_true {l : List En} : rightB l = true ↔ Right l := by unfold rightB; simp
theorem rightB_false {l : List En} : rightB l = false ↔ ¬ Right l := by unfold rightB; simp
theorem right_bad {l : List En} {i : Nat} (hi : i < l.length) (h : ¬ rightAt l i hi) : rightB l = false := rightB_false.2 fun hr => h (hr i hi)
theorem right_all {l : List En} (h : ∀ i (hi : i < l.length), i < l.length → rightAt l i hi) : rightB l = true := rightB_true.2 fun i hi => h i hi hi
noncomputable def encode (l : List En) : B × Int := if rightB l = true then (bytesE l, 0) else ([], 11)
def left (r : Pk.Rd) : Nat := if r.bad = 0 then r.rest.length else 0
def entOf (l : List B) : Option En :=
  match l with
  | [n, k, g] => if k = [100] then some ⟨n, true, g⟩ else if k = [102] then some ⟨n, false, g⟩ else none
  | _ => none
theorem entOf_some {l : List B} {x : En} (h : entOf l = some x) : l = [x.n, kind x, x.g] := by
  unfold entOf at h
  split at h
  · split at h
    · rename_i hk; injection h with h; subst h; rw [hk]; rfl
    · split at h
      · rename_i hk; injection h with h; subst h; rw [hk]; rfl
      · cases h
  · cases h
theorem entOf_none {l : List B} (h : l.length ≠ 3) : entOf l = none := by
  unfold entOf
  split
  · simp at h
  · rfl
theorem entOf_three {n k g : B} : entOf [n, k, g] = if k = [100] then some ⟨n, true, g⟩ else if k = [102] then some ⟨n, false, g⟩ else none := rfl
def decF : Nat → Pk.Rd → Option (List En × Pk.Rd)
  | 0, _ => none
  | f + 1, r => if left r = 0 then some ([], r) else
    match entOf r.list.1 with
    | none => none
    | some x => (decF f r.list.2).map fun (m, q) => (x :: m, q)
theorem decF_end {f : Nat} {r : Pk.Rd} (h : left r = 0) : decF (f + 1) r = some ([], r) := by rw [decF, if_pos h]
theorem decF_bad {f : Nat} {r : Pk.Rd} (h : left r ≠ 0) (h2 : entOf r.list.1 = none) : decF (f + 1) r = none := by rw [decF, if_neg h, h2]
theorem decF_more {f : Nat} {r : Pk.Rd} {x : En} (h : left r ≠ 0) (h2 : entOf r.list.1 = some x) : decF (f + 1) r = (decF f r.list.2).map fun (m, q) => (x :: m, q) := by rw [decF, if_neg h, h2]
theorem list_less {r : Pk.Rd} {x : En} (h : entOf r.list.1 = some x) : r.list.2.rest.length < r.rest.length := by
  have h0 := entOf_some h
  unfold Pk.Rd.list at h0 ⊢
  cases hl : Pk.lst r.text.1 with
  | none => rw [hl] at h0; cases h0
  | some l =>
    rw [hl] at h0
    simp only at h0 ⊢
    unfold Pk.Rd.text at hl ⊢
    by_cases hb : r.bad ≠ 0
    · rw [if_pos hb] at hl
      simp only at hl
      rw [Pk.lst] at hl
      simp at hl
      subst hl
      cases h0
    · rw [if_neg hb] at hl ⊢
      rcases hn : Pk.nxt r.rest with c | ⟨t, q⟩
      · rw [hn] at hl
        simp only at hl
        rw [Pk.lst] at hl
        simp at hl
        subst hl
        cases h0
      · simp only
        exact Pk.nxt_lt hn
theorem decF_fuel : ∀ (f g : Nat) (r : Pk.Rd), r.rest.length < f → r.rest.length < g → decF f r = decF g r
  | 0, _, _, h, _ => absurd h (by omega)
  | _ + 1, 0, _, _, h => absurd h (by omega)
  | f + 1, g + 1, r, h1, h2 => by
    by_cases hl : left r = 0
    · rw [decF_end hl, decF_end hl]
    · cases he : entOf r.list.1 with
      | none => rw [decF_bad hl he, decF_bad hl he]
      | some x =>
        have := list_less he
        rw [decF_more hl he, decF_more hl he, decF_fuel f g r.list.2 (by omega) (by omega)]
def dec (r : Pk.Rd) : Option (List En × Pk.Rd) := decF (r.rest.length + 1) r
theorem dec_end {r : Pk.Rd} (h : left r = 0) : dec r = some ([], r) := decF_end h
theorem dec_bad {r : Pk.Rd} (h : left r ≠ 0) (h2 : entOf r.list.1 = none) : dec r = none := decF_bad h h2
theorem dec_more {r : Pk.Rd} {x : En} (h : left r ≠ 0) (h2 : entOf r.list.1 = some x) : dec r = (dec r.list.2).map fun (m, q) => (x :: m, q) := by
  have := list_less h2
  rw [dec, decF_more h h2, dec, decF_fuel _ (r.list.2.rest.length + 1) _ (by omega) (by omega)]
theorem decF_back : ∀ (f : Nat) (r : Pk.Rd) (m : List En) (q : Pk.Rd), decF f r = some (m, q) → q.bad = 0 → r.bad = 0 ∧ r.rest = bytesE m ++ q.rest
  | 0, _, _, _, h, _ => by cases h
  | f + 1, r, m, q, h, hq => by
    by_cases hl : left r = 0
    · rw [decF_end hl] at h
      injection h with h
      injection h with h1 h2
      subst h1 h2
      exact ⟨hq, rfl⟩
    · cases he : entOf r.list.1 with
      | none => rw [decF_bad hl he] at h; cases h
      | some x =>
        rw [decF_more hl he] at h
        cases hd : decF f r.list.2 with
        | none => rw [hd] at h; cases h
        | some p =>
          obtain ⟨m', q'⟩ := p
          rw [hd] at h
          injection h with h
          injection h with h1 h2
          subst h1 h2
          obtain ⟨i1, i2⟩ := decF_back f _ _ _ hd hq
          obtain ⟨j1, j2⟩ := Pk.list_bad r i1
          refine ⟨j1, ?_⟩
          have hc : bytesE (x :: m') = Pk.list [x.n, kind x, x.g] ++ bytesE m' := by rw [bytesE, List.flatMap_cons]; rfl
          rw [j2, i2, entOf_some he, hc, List.append_assoc]
theorem dec_back {data : B} {m : List En} {q : Pk.Rd} (h : dec ⟨data, 0⟩ = some (m, q)) (hq : q.fin = 0) : bytesE m = data := by
  obtain ⟨h1, h2⟩ := Pk.fin_zero hq
  have := (decF_back _ _ _ _ h h1).2
  rw [h2, List.append_nil] at this
  exact this.symm
noncomputable def decode (data : B) : List En × Int :=
  match dec ⟨data, 0⟩ with
  | none => ([], 11)
  | some (m, q) => if q.fin = 0 ∧ rightB m = true then (m, 0) else ([], 11)
theorem decode_none {data : B} (h : dec ⟨data, 0⟩ = none) : decode data = ([], 11) := by unfold decode; rw [h]
theorem decode_bad {data : B} {m : List En} {q : Pk.Rd} (h : dec ⟨data, 0⟩ = some (m, q)) (h2 : q.fin ≠ 0 ∨ rightB m = false) : decode data = ([], 11) := by
  unfold decode; rw [h]
  simp only
  rw [if_neg]
  rintro ⟨h3, h4⟩
  rcases h2 with h2 | h2
  · exact h2 h3
  · rw [h2] at h4; cases h4
theorem decode_good {data : B} {m : List En} {q : Pk.Rd} (h : dec ⟨data, 0⟩ = some (m, q)) (h2 : q.fin = 0) (h3 : rightB m = true) : decode data = (m, 0) := by
  unfold decode; rw [h]
  simp only
  rw [if_pos ⟨h2, h3⟩]
theorem decode_right {data : B} (h : (decode data).2 = 0) : Right (decode data).1 := by
  unfold decode at h ⊢
  cases hd : dec ⟨data, 0⟩ with
  | none => rw [hd] at h; cases h
  | some p =>
    obtain ⟨m, q⟩ := p
    rw [hd] at h
    simp only at h ⊢
    split at h
    · rename_i hx
      rw [if_pos hx]
      exact rightB_true.1 hx.2
    · cases h
theorem decode_err (data : B) : (decode data).2 = 0 ∨ ((decode data).2 = 11 ∧ (decode data).1 = []) := by
  unfold decode
  cases dec ⟨data, 0⟩ with
  | none => exact .inr ⟨rfl, rfl⟩
  | some p =>
    obtain ⟨m, q⟩ := p
    simp only
    split
    · exact .inl rfl
    · exact .inr ⟨rfl, rfl⟩
theorem dec_count : ∀ (f : Nat) (r : Pk.Rd) (m : List En) (q : Pk.Rd), decF f r = some (m, q) → m.length ≤ r.rest.length
  | 0, _, _, _, h => by cases h
  | f + 1, r, m, q, h => by
    by_cases hl : left r = 0
    · rw [decF_end hl] at h
      injection h with h
      injection h with h1 h2
      subst h1
      simp
    · cases he : entOf r.list.1 with
      | none => rw [decF_bad hl he] at h; cases h
      | some x =>
        rw [decF_more hl he] at h
        have hless := list_less he
        cases hd : decF f r.list.2 with
        | none => rw [hd] at h; cases h
        | some p =>
          obtain ⟨m', q'⟩ := p
          rw [hd] at h
          injection h with h
          injection h with h1 h2
          subst h1 h2
          have := dec_count f _ _ _ hd
          rw [List.length_cons]; omega
theorem decode_count (data : B) : (decode data).1.length ≤ data.length := by
  unfold decode
  cases hd : dec ⟨data, 0⟩ with
  | none => simp
  | some p =>
    obtain ⟨m, q⟩ := p
    simp only
    split
    · exact dec_count _ _ _ _ hd
    · simp
end Go.Proofs.YtlndnpfjneeeeaaGreatDoor.Fs
namespace Go.Proofs.YtlndnpfjneeeeaaGreatDoor.Fs
set_option linter.unusedVariables false
def badF (f : Fl) : Option Int := if Lg.pathOk (tl f.p) = false then some 13 else if 2048 < f.d.size then some 15 else none
def Twice (l : List Fl) : Prop := (∃ i, ∃ (h : i < l.length), 0 < i ∧ ¬ tl (l[i - 1]'(by omega)).p < tl l[i].p) ∨ ∃ i, ∃ (h : i < l.length), ∃ k, ∃ (hk : k < l.length), (belowB (tl l[i].p) (tl l[k].p)).isSome = true
noncomputable def checkE (l : List Fl) : Int :=
  match l.findSome? badF with
  | some c => c
  | none => if 32 < l.length then 15 else @ite _ (Twice l) (Classical.propDecidable _) 16 0
theorem check_first {l : List Fl} {k : Nat} {c : Int} (hk : k < l.length) (h : ∀ j (hj : j < l.length), j < k → badF l[j] = none) (h2 : badF l[k] = some c) : checkE l = c := by
  have : l.findSome? badF = some c := by
    induction l generalizing k with
    | nil => simp at hk
    | cons a l ih =>
      cases k with
      | zero => rw [List.findSome?_cons, show badF a = some c from h2]
      | succ k =>
        rw [List.findSome?_cons, show badF a = none from h 0 (by simp) (by omega)]
        exact ih (k := k) (by simpa using hk) (fun j hj hjk => h (j + 1) (by simpa using hj) (by omega)) h2
  unfold checkE
  rw [this]
theorem find_none {l : List Fl} (h : ∀ j (hj : j < l.length), j < l.length → badF l[j] = none) : l.findSome? badF = none := List.findSome?_eq_none_iff.2 fun f hf => by
  obtain ⟨j, hj, rfl⟩ := List.mem_iff_getElem.1 hf
  exact h j hj hj
theorem check_many {l : List Fl} (h : ∀ j (hj : j < l.length), j < l.length → badF l[j] = none) (h2 : 32 < l.length) : checkE l = 15 := by
  unfold checkE
  rw [find_none h]
  exact if_pos h2
theorem check_twice {l : List Fl} (h : ∀ j (hj : j < l.length), j < l.length → badF l[j] = none) (h2 : ¬ 32 < l.length) (h3 : Twice l) : checkE l = 16 := by
  unfold checkE
  rw [find_none h]
  simp only
  rw [if_neg h2, if_pos h3]
theorem check_good {l : List Fl} (h : ∀ j (hj : j < l.length), j < l.length → badF l[j] = none) (h2 : ¬ 32 < l.length) (h3 : ¬ Twice l) : checkE l = 0 := by
  unfold checkE
  rw [find_none h]
  simp only
  rw [if_neg h2, if_neg h3]
end Go.Proofs.YtlndnpfjneeeeaaGreatDoor.Fs
namespace Go.Proofs.YtlndnpfjneeeeaaGreatDoor.Fs
set_option linter.unusedVariables false
set_option maxRecDepth 100000
end Go.Proofs.YtlndnpfjneeeeaaGreatDoor.Fs
/- FsRefP, what a claim needs of it (prune.py). -/
namespace Go.Proofs.YtlndnpfjneeeeaaGreatDoor.Fs
open Go.RowKit
set_option linter.unusedVariables false
set_option maxRecDepth 100000
theorem pre_iff {p s : B} {c : UInt8} : (p ++ [c]) <+: s ↔ s.take p.length = p ∧ s[p.length]? = some c := by
  rw [List.prefix_iff_eq_take, List.length_append, List.length_singleton, List.take_add_one]
  constructor
  · intro h
    cases e : s[p.length]? with
    | none =>
      rw [e] at h
      have := congrArg List.length h
      simp at this; omega
    | some d =>
      rw [e] at h
      have := List.append_inj' h rfl
      simp at this
      exact ⟨this.1.symm, by rw [this.2]⟩
  · rintro ⟨h1, h2⟩
    rw [h1, h2]; rfl
theorem below_no1 {s p : ByteArray} (h : ¬ p.size + 1 < s.size) : (belowB (tl s) (tl p)).isSome = false := by
  unfold belowB
  rw [if_neg (fun hh => h (by rw [tl_len, tl_len] at hh; exact hh.2))]; rfl
theorem below_no2 {s p : ByteArray} (hl : p.size + 1 < s.size) (h : s.extract 0 p.size ≠ p ∨ s[p.size] ≠ 47) : (belowB (tl s) (tl p)).isSome = false := by
  unfold belowB
  rw [if_neg]
  · rfl
  · rintro ⟨h1, h2⟩
    obtain ⟨h3, h4⟩ := pre_iff.1 h1
    rw [tl_len] at h3 h4
    rcases h with h | h
    · apply h
      apply Lg.tl_inj
      show (s.extract 0 p.size).data.toList = tl p
      rw [Lib.extract_data, List.drop_zero, Nat.sub_zero]; exact h3
    · rw [Lg.tl_get (show p.size < s.size by omega)] at h4
      exact h (Option.some.inj h4)
theorem below_yes {s p : ByteArray} (hl : p.size + 1 < s.size) (h1 : s.extract 0 p.size = p) (h2 : s[p.size] = 47) : belowB (tl s) (tl p) = some (tl (s.extract (p.size + 1) s.size)) := by
  have hpre : (tl p ++ [47]) <+: tl s := by
    refine pre_iff.2 ⟨?_, ?_⟩
    · have := congrArg (fun x : ByteArray => x.data.toList) h1
      simp only [Lib.extract_data, List.drop_zero, Nat.sub_zero] at this
      rw [tl_len]; exact this
    · rw [tl_len, Lg.tl_get (show p.size < s.size by omega), h2]
  unfold belowB
  rw [if_pos ⟨hpre, by rw [tl_len, tl_len]; exact hl⟩, tl_len, ← Lib.extract_to_end]
set_option maxHeartbeats 1000000 in
theorem rbelow_any (s p : ByteArray) (hp : p.size ≤ 1000000000) (w : World) :
    Calls Tryz.prog 104 #[.string s, .string p] w fun e w' => e = .returned (.bool (belowB (tl s) (tl p)).isSome) ∧ w = w' := by
  by_cases hl : p.size + 1 < s.size
  · have i1 : (p.size : Int) + 1 < (s.size : Int) := by omega
    have i2 : (p.size : Int) ≤ (s.size : Int) := by omega
    have i3 : (p.size : Int) < (s.size : Int) := by omega
    have i4 : p.size < s.size := by omega
    by_cases hx : s.extract 0 p.size = p
    · by_cases hc : s[p.size] = 47
      · have F : Hid ((belowB (tl s) (tl p)).isSome = true) := Lib.hid (by rw [below_yes hl hx hc]; rfl)
        have j : (s[p.size].toNat : Int) = 47 := by rw [hc]; rfl
        clear hc
        go_enter Tryz.func104, Tryz.ntmps104
        go_wp2_with (fail)
        go_ret
        exact ⟨by rw [F.out]; rfl, rfl⟩
      · have F : Hid ((belowB (tl s) (tl p)).isSome = false) := Lib.hid (below_no2 hl (.inr hc))
        have j : ((s[p.size].toNat : Int) == 47) = false := beq_eq_false_iff_ne.2 fun e => hc (by
          apply UInt8.toNat_inj.1
          show s[p.size].toNat = 47
          omega)
        clear hc
        go_enter Tryz.func104, Tryz.ntmps104
        go_wp2_with (fail)
        go_ret
        exact ⟨by rw [F.out]; rfl, rfl⟩
    · have F : Hid ((belowB (tl s) (tl p)).isSome = false) := Lib.hid (below_no2 hl (.inl hx))
      have g := Lg.s_ne hx
      clear hx
      go_enter Tryz.func104, Tryz.ntmps104
      go_wp2_with (fail)
      go_ret
      exact ⟨by rw [F.out]; rfl, rfl⟩
  · have F : Hid ((belowB (tl s) (tl p)).isSome = false) := Lib.hid (below_no1 hl)
    have i1 : ¬ (p.size : Int) + 1 < (s.size : Int) := by omega
    go_enter Tryz.func104, Tryz.ntmps104
    go_wp2_with (fail)
    go_ret
    exact ⟨by rw [F.out]; rfl, rfl⟩
theorem take_while {l : B} : ∀ {k : Nat} (hk : k < l.length), (∀ j (hj : j < l.length), j < k → l[j] ≠ 47) → l[k] = 47 → head l = l.take k := by
  induction l with
  | nil => intro k hk; simp at hk
  | cons a l ih =>
    intro k hk h e
    cases k with
    | zero =>
      have e : a = 47 := e
      subst e; rfl
    | succ k =>
      have h0 : a ≠ 47 := h 0 (by simp) (by omega)
      have := ih (k := k) (by simpa using hk) (fun j hj hjk => h (j + 1) (by simpa using hj) (by omega)) e
      unfold head at this ⊢
      rw [List.takeWhile_cons, if_pos (decide_eq_true h0), this]; rfl
theorem take_none : ∀ {l : B}, (∀ j (hj : j < l.length), l[j] ≠ 47) → head l = l
  | [], _ => rfl
  | a :: l, h => by
    have h0 : a ≠ 47 := h 0 (by simp)
    have ih := take_none (l := l) fun j hj => h (j + 1) (by simpa using hj)
    unfold head at ih ⊢
    rw [List.takeWhile_cons, if_pos (decide_eq_true h0), ih]
theorem rhead_any (s : ByteArray) (hs : s.size ≤ 1000000000) (w : World) :
    Calls Tryz.prog 260 #[.string s] w fun e w' => (∃ b, e = .returned (.tuple #[.string (bs (head (tl s))), .bool b]) ∧ (b = true ↔ (47 : UInt8) ∈ tl s)) ∧ w = w' := by
  have HN : Hid ((∀ j (hj : j < s.size), j < s.size → s[j] ≠ 47) → s = bs (head (tl s)) ∧ ¬ (47 : UInt8) ∈ tl s) := Lib.hid fun h => by
    have h' : ∀ j (hj : j < (tl s).length), (tl s)[j] ≠ 47 := fun j hj => h j (by rw [tl_len] at hj; exact hj) (by rw [tl_len] at hj; exact hj)
    refine ⟨by rw [take_none h']; rfl, fun hm => ?_⟩
    obtain ⟨j, hj, e⟩ := List.mem_iff_getElem.1 hm
    exact absurd e (h' j hj)
  have HH : Hid (∀ k (hk : k < s.size), (∀ j (hj : j < s.size), j < k → s[j] ≠ 47) → s[k] = 47 → s.extract 0 k = bs (head (tl s)) ∧ (47 : UInt8) ∈ tl s) := Lib.hid fun k hk h e => by
    have hk' : k < (tl s).length := by rw [tl_len]; exact hk
    refine ⟨?_, List.mem_iff_getElem.2 ⟨k, hk', e⟩⟩
    rw [take_while hk' (fun j hj hjk => h j (by rw [tl_len] at hj; exact hj) hjk) e]
    apply Lg.tl_inj
    show (s.extract 0 k).data.toList = (tl s).take k
    rw [Lib.extract_data, List.drop_zero, Nat.sub_zero]
  go_enter Tryz.func260, Tryz.ntmps260
  go_wp2_with (fail)
  go_loopw [4] (fun i W => ∃ k : Nat, i = .int .i64 k ∧ k ≤ s.size ∧ (∀ j (hj : j < s.size), j < k → s[j] ≠ 47) ∧ w = W) (fun i _ => s.size - (intOf i).toNat)
  case atStart => exact ⟨0, rfl, by omega, fun j _ h => by omega, rfl⟩
  case round =>
    obtain ⟨k, rfl, hk, ha, rfl⟩ := hrel
    have HA := Lib.hid ha
    clear ha
    by_cases hlt : k < s.size
    · have hkI : (k : Int) < (s.size : Int) := by omega
      have hkI2 : (k : Int) ≤ (s.size : Int) := by omega
      by_cases h : s[k] = 47
      · have F := Lib.hid (HH.out k hlt HA.out h)
        have j : ((s[k].toNat : Int) == 47) = true := by rw [h]; rfl
        clear h
        go_wp2_with (fail)
        go_ret2
        exact ⟨⟨true, by rw [← F.out.1]; rfl, ⟨fun _ => F.out.2, fun _ => rfl⟩⟩, rfl⟩
      · have F : Hid (∀ j (hj : j < s.size), j < k + 1 → s[j] ≠ 47) := Lib.hid fun j hj h1 => by
          rcases Nat.lt_or_ge j k with h2 | h2
          · exact HA.out j hj h2
          · obtain rfl : j = k := by omega
            exact h
        have j : ((s[k].toNat : Int) == 47) = false := beq_eq_false_iff_ne.2 fun e => h (by
          apply UInt8.toNat_inj.1
          show s[k].toNat = 47
          omega)
        clear h
        go_wp2_with (fail)
        go_roundw
        case rel => exact ⟨k + 1, by go_num, by omega, F.out, by first | rfl | trivial⟩
        case measure => simp [intOf]; omega
    · obtain rfl : k = s.size := by omega
      have F := Lib.hid (HN.out HA.out)
      go_wp2_with (fail)
      go_ret2
      exact ⟨⟨false, by rw [← F.out.1]; rfl, ⟨fun h => (by cases h), fun h => absurd h F.out.2⟩⟩, rfl⟩
end Go.Proofs.YtlndnpfjneeeeaaGreatDoor.Fs
