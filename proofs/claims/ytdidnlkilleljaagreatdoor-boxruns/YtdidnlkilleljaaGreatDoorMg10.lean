/- Joined by mkmerged.py: LgRprint, LgRmem. -/
import Derived.Test.YtdidnlkilleljaaGreatDoorMgKt
import Derived.Test.YtdidnlkilleljaaGreatDoorMg05
import Derived.Test.YtdidnlkilleljaaGreatDoorMg09
import Derived.Deep.RegionWith
import Derived.Deep.CutRange
/- LgRprint, what a claim needs of it (prune.py). -/
namespace Go.Proofs.YtdidnlkilleljaaGreatDoor.Lg
open Go.RowKit
set_option linter.unusedVariables false
set_option maxRecDepth 100000
theorem infoB : (Tryz.prog.info? 5).map (fun i => (i.zero, i.size, i.bytes)) = some (some (.int .u8 0), 1, 1) := by kernel_rfl
theorem Lies.lbelow {w w' : World} {ok : Nat → Prop} {size n : Nat} {A : Option Addr} {xs : List Value} (h : Lies w ok size A n xs) (hs : 0 < size) (hb : Below w.heap.size w w') : Lies w' ok size A n xs := h.mono hs fun b ho hl => ⟨ho, hb.block b hl⟩
theorem heap_lt2 {w : World} {g : Nat} {o : Obj} (h : w.heap[g]? = some o) : g < w.heap.size := by
  rcases Nat.lt_or_ge g w.heap.size with h2 | h2
  · exact h2
  · rw [Array.getElem?_eq_none h2] at h; cases h
theorem own_below2 {w w' : World} {B : Nat} {e : TypeId} {size n : Nat} {v : Value} {xs : List Value} (h : w.ownsRow B e size v n xs) (hb : Below w.heap.size w w') : w'.ownsRow B e size v n xs := by
  refine ⟨h.1, ?_⟩
  rcases h.2 with h2 | ⟨g, cap, cur, rfl, hB, hg, r⟩
  · exact .inl h2
  · exact .inr ⟨g, cap, cur, rfl, hB, (hb.block g (heap_lt2 hg)).trans hg, r⟩
theorem cell_on {w W : World} {p : Addr} {u : Value} (h : w.cell? p = some u) (hb : Below w.heap.size w W) : W.cell? p = some u := by
  refine (hb.cell ?_).trans h
  unfold World.cell? at h
  rcases Nat.lt_or_ge p.block w.heap.size with h1 | h1
  · exact h1
  · rw [Array.getElem?_eq_none h1] at h; cases h
theorem text_on {w : World} {ok : Nat → Prop} {A : Option Addr} {l : List B} {n : Nat} (h : Lies w ok 1 A n (strV l)) (hn : n = l.length) {k : Nat} (hk : k < l.length) : ∃ ad, A = some ad ∧ ∀ W, Below w.heap.size w W → W.cell? (ad.add k) = some (.string (bs l[k])) := by
  obtain ⟨ad, rfl, hc⟩ := h.text hn hk
  exact ⟨ad, rfl, fun W hW => cell_on hc hW⟩
def PrAt (w W : World) (xb : Nat) (cs : Array Value) (v : Value) (s : B) : Prop :=
  W.ownsRow w.heap.size 5 1 v s.length (Lib.byteCells s) ∧ W.heap[xb]? = some (.cells cs 61 (0, 0)) ∧ Below w.heap.size w W ∧ w.heap.size ≤ xb
theorem PrAt.app {w W W' : World} {xb n : Nat} {cs : Array Value} {v v' : Value} {s s' : B} (h : PrAt w W xb cs v s) (h1 : W'.ownsRow w.heap.size 5 1 v' n (Lib.byteCells s')) (hn : n = s'.length) (h2 : Below w.heap.size w W')
    (h3 : ∀ k, k < W.heap.size → some k ≠ v.ownBlock → W'.heap[k]? = W.heap[k]?) : PrAt w W' xb cs v' s' := by
  subst hn
  refine ⟨h1, (h3 xb (heap_lt2 h.2.1) (fun e => ?_)).trans h.2.1, h2, h.2.2.2⟩
  rcases h.1.2 with ⟨hv, _⟩ | ⟨g, c, u, hv, _, hh, _⟩
  · rw [hv] at e; cases e
  · rw [hv] at e
    injection e with e
    simp only at e
    subst e
    have := h.2.1
    rw [hh] at this
    injection this with this
    injection this with _ ht
    exact absurd ht (by decide)
theorem PrAt.below {w W : World} {xb : Nat} {cs : Array Value} {v : Value} {s : B} (h : PrAt w W xb cs v s) : Below w.heap.size w W := h.2.2.1
theorem PrAt.on {w W W' : World} {xb : Nat} {cs : Array Value} {v : Value} {s : B} (h : PrAt w W xb cs v s) (hb : Below W.heap.size W W') : PrAt w W' xb cs v s :=
  ⟨own_below2 h.1 hb, (hb.block xb (heap_lt2 h.2.1)).trans h.2.1, h.2.2.1.trans (hb.mono h.2.2.1.size), h.2.2.2⟩
theorem PrAt.cellAt {w W : World} {xb : Nat} {cs : Array Value} {v u : Value} {s : B} (h : PrAt w W xb cs v s) (j : Nat) (hu : cs[j]? = some u) : W.cell? ⟨xb, j, none⟩ = some u := (cell_heap h.2.1 j).trans hu
theorem names_any (w : World) : Calls Tryz.prog 125 #[] w fun e w' => e = .returned (.slice (some ⟨w.heap.size, 0, none⟩) 11 11) ∧ Below w.heap.size w w' ∧ ∀ j, j ≤ 10 → w'.cell? ⟨w.heap.size, j, none⟩ = some (.string (bs (wordsL.getD j [63]))) := by
  go_enter Tryz.func125, Tryz.ntmps125
  go_wp2_with (fail)
  go_ret
  refine ⟨rfl, (Below.refl _ _).alloc (Nat.le_refl _) _, fun j hj => ?_⟩
  have h := heap_alloc_new w (.cells #[.string ⟨#[63]⟩, .string ⟨#[112, 117, 116]⟩, .string ⟨#[99, 111, 112, 121]⟩, .string ⟨#[99, 97, 116]⟩, .string ⟨#[117, 112, 112, 101, 114]⟩, .string ⟨#[115, 111, 114, 116]⟩, .string ⟨#[100, 114, 111, 112]⟩, .string ⟨#[110, 101, 101, 100]⟩, .string ⟨#[102, 97, 105, 108]⟩, .string ⟨#[108, 111, 111, 112]⟩, .string ⟨#[105, 102]⟩] 9)
  rw [cell_heap h]
  rcases j with _ | _ | _ | _ | _ | _ | _ | _ | _ | _ | _ | j
  all_goals first | rfl | omega
set_option maxHeartbeats 8000000 in
theorem rprint_any : ∀ (K : Nat) (l : List Stp), weight l ≤ K → numL l → (print l).length ≤ 4000000 → ∀ (A : Option Addr) (n c : Nat) (w : World) (ok : Nat → Prop), StepsAt w ok A n l →
    Calls Tryz.prog 69 #[.slice A n c] w fun e w' => e = .returned (.string (bs (print l))) ∧ Below w.heap.size w w' := by
  intro K
  induction K using Nat.strongRecOn with
  | ind K ih =>
    intro l hK hnum hlen A n c w ok hr
    obtain rfl : n = l.length := hr.1
    have hlw := len_weight l
    have hlp6 : l.length ≤ 4000000 := Nat.le_trans (len_print l) hlen
    have SR := Lib.hid (fun W (h : Below w.heap.size w W) => hr.below h)
    have NUM := Lib.hid hnum
    clear hr hnum
    go_enter Tryz.func69, Tryz.ntmps69
    go_wp2_with (fail)
    go_loopw [3, 4] (fun v0 i wr => ∃ (v : Value) (k : Nat) (done : B), v = v0 ∧ i = .int .i64 k ∧ k ≤ l.length ∧ done = print (l.take k) ∧ wr.ownsRow w.heap.size 5 1 v done.length (Lib.byteCells done) ∧ Below w.heap.size w wr) (fun _ i _ => l.length - (intOf i).toNat)
    case atStart => exact ⟨_, 0, [], rfl, rfl, by omega, print_nil.symm, World.ownsRow_nil _ _ _ _, Below.refl _ _⟩
    case round =>
      obtain ⟨v, k, done, rfl, rfl, hk, hdone, hown, hb⟩ := hrel
      rename World => wr
      have hlp := print_take_le l k
      rw [← hdone] at hlp
      by_cases hlt : k < l.length
      · have hkI : (k : Int) < (l.length : Int) := by omega
        obtain ⟨ad, A', ka, ca, B', kb, cb, rfl, a0, a1, a2, a3, a4, hac, a5, hbc, a6⟩ := (SR.out w (Below.refl _ _)).at_ hlt
        have a0 := cell_on a0 hb
        have a1 := cell_on a1 hb
        have a2 := cell_on a2 hb
        have a3 := cell_on a3 hb
        have hwb := weight_at hlt
        have hnm := numL_at hlt NUM.out
        have hps := print_at_le hlt
        have hpt := print_take hlt
        rw [← hdone] at hps hpt
        have IH := Lib.hid (fun (h0 : (print l[k].block).length ≤ 4000000) => ih (weight l[k].block) (by omega) l[k].block (Nat.le_refl _) hnm.2 h0)
        generalize l[k] = x at *
        have A1 : wr.cell? ⟨(ad.add (k * 4)).block, (ad.add (k * 4)).off + 1, none⟩ = some (.slice A' ka ca) := by rw [← add_of_add] at a1; exact a1
        have A2 : wr.cell? ⟨(ad.add (k * 4)).block, (ad.add (k * 4)).off + 2, none⟩ = some (.int .i64 x.n) := by rw [← add_of_add] at a2; exact a2
        have A3 : wr.cell? ⟨(ad.add (k * 4)).block, (ad.add (k * 4)).off + 3, none⟩ = some (.slice B' kb cb) := by rw [← add_of_add] at a3; exact a3
        subst a4
        have TA := Lib.hid (fun j (hj : j < x.args.length) => text_on a5 rfl hj)
        have BA := Lib.hid (fun W (h : Below w.heap.size w W) => a6.below h)
        have HPS := Lib.hid hps
        have HPT := Lib.hid hpt
        have HNM := Lib.hid hnm
        have HDN := Lib.hid hdone
        clear a1 a2 a3 a5 a6 ih hpt hnm hps hdone
        go_upto_region 7 with (fail)
        obtain ⟨W1, eW1⟩ : ∃ W1, W1 = wr.alloc (.cells #[.int .i64 x.op, .slice A' x.args.length ca, .int .i64 x.n, .slice B' kb cb] 61) := ⟨_, rfl⟩
        have hx1 : W1.heap[wr.heap.size]? = some (.cells #[.int .i64 x.op, .slice A' x.args.length ca, .int .i64 x.n, .slice B' kb cb] 61 (0, 0)) := by rw [eW1]; exact heap_alloc_new wr _
        have hb1 : Below wr.heap.size wr W1 := by rw [eW1]; exact (Below.refl _ _).alloc (Nat.le_refl _) _
        rw [← eW1]
        clear eW1
        have hs1 : wr.heap.size < W1.heap.size := heap_lt2 hx1
        have F0 := Lib.hid (fun W (h : Below W1.heap.size W1 W) => ((cell_heap (j := 0) ((h.block _ hs1).trans hx1)).trans rfl : W.cell? ⟨wr.heap.size, 0, none⟩ = some (.int .i64 x.op)))
        have F1 := Lib.hid (fun W (h : Below W1.heap.size W1 W) => ((cell_heap (j := 1) ((h.block _ hs1).trans hx1)).trans rfl : W.cell? ⟨wr.heap.size, 1, none⟩ = some (.slice A' x.args.length ca)))
        have F2 := Lib.hid (fun W (h : Below W1.heap.size W1 W) => ((cell_heap (j := 2) ((h.block _ hs1).trans hx1)).trans rfl : W.cell? ⟨wr.heap.size, 2, none⟩ = some (.int .i64 x.n)))
        have F3 := Lib.hid (fun W (h : Below W1.heap.size W1 W) => ((cell_heap (j := 3) ((h.block _ hs1).trans hx1)).trans rfl : W.cell? ⟨wr.heap.size, 3, none⟩ = some (.slice B' kb cb)))
        have HX1 := Lib.hid hx1
        clear hx1
        have f0 : W1.cell? ⟨wr.heap.size, 0, none⟩ = some (.int .i64 x.op) := F0.out W1 (Below.refl _ _)
        have HB1 := Lib.hid hb1
        have OWN1 := Lib.hid (own_below2 hown hb1)
        clear hb1 a0 A1 A2 A3
        go_cut [25] from 8 to 79 (fun v wx => v = .bool (decide (1 ≤ x.op ∧ x.op ≤ 10)) ∧ W1 = wx)
        case first =>
          by_cases g1 : 1 ≤ x.op
          · by_cases g2 : x.op ≤ 10
            · go_wp2_with (fail)
              go_meet
              exact ⟨congrArg Value.bool (decide_eq_true ⟨g1, g2⟩).symm, rfl⟩
            · go_wp2_with (fail)
              go_meet
              have e := decide_eq_false (show ¬ (1 ≤ x.op ∧ x.op ≤ 10) from fun h => by omega)
              exact ⟨congrArg Value.bool e.symm, rfl⟩
          · go_wp2_with (fail)
            go_meet
            have e := decide_eq_false (show ¬ (1 ≤ x.op ∧ x.op ≤ 10) from fun h => by omega)
            exact ⟨congrArg Value.bool e.symm, rfl⟩
        case rest =>
          obtain ⟨rfl, rfl⟩ := hcut
          go_upto_if 25 with (fail)
          go_cut [6] from 8 to 79 (fun v wx => v = .string (bs (wordOf x.op)) ∧ Below W1.heap.size W1 wx)
          case first =>
            by_cases g : 1 ≤ x.op ∧ x.op ≤ 10
            · obtain ⟨j, hj⟩ : ∃ j : Nat, x.op = j := ⟨x.op.toNat, by omega⟩
              obtain ⟨wd, ewd⟩ : ∃ wd, wd = bs (wordsL.getD j [63]) := ⟨_, rfl⟩
              have hW : Hid (wd = bs (wordOf x.op)) := Lib.hid (by rw [ewd, wordOf, if_pos g, hj]; rfl)
              have e : decide (1 ≤ x.op ∧ x.op ≤ 10) = true := decide_eq_true g
              rw [e]
              have hj10 : j ≤ 10 := by omega
              have j1 : (0 : Int) ≤ (j : Int) := by omega
              have j2 : (j : Int) < 11 := by omega
              rw [hj] at f0
              have NM : Hid (Calls Tryz.prog 125 #[] W1.drew fun e w' => e = .returned (.slice (some ⟨W1.heap.size, 0, none⟩) 11 11) ∧ Below W1.heap.size W1 w' ∧ w'.cell? ⟨W1.heap.size, j, none⟩ = some (.string wd)) := Lib.hid ((names_any W1.drew).mono fun e w' h => ⟨h.1, undrawn h.2.1, by rw [ewd]; exact h.2.2 j hj10⟩)
              have F0' := Lib.hid (fun W (h : Below W1.heap.size W1 W) => ((F0.out W h).trans (by rw [hj]) : W.cell? ⟨wr.heap.size, 0, none⟩ = some (.int .i64 j)))
              clear e hj g ewd
              go_upto_region 8 with (fail)
              go_region_with (go_at_call 125; (with_reducible refine (NM.out).mono ?_); rintro e w2 ⟨rfl, hb2, hc2⟩; have f2 := F0'.out w2 hb2)
              all_goals
                go_wp2_with (fail)
                go_meet
                exact ⟨congrArg Value.string hW.out, hb2⟩
            · have hW : Hid (bs [63] = bs (wordOf x.op)) := Lib.hid (by rw [wordOf, if_neg g])
              have e : decide (1 ≤ x.op ∧ x.op ≤ 10) = false := decide_eq_false g
              rw [e]
              clear e
              go_wp2_with (fail)
              go_meet
              exact ⟨congrArg Value.string hW.out, Below.refl _ _⟩
          case rest =>
            obtain ⟨rfl, hb2⟩ := hcut
            have P0 : PrAt w wc wr.heap.size #[.int .i64 x.op, .slice A' x.args.length ca, .int .i64 x.n, .slice B' kb cb] v done := ⟨own_below2 OWN1.out hb2, (hb2.block _ hs1).trans HX1.out, hb.trans ((HB1.out.trans (hb2.mono HB1.out.size)).mono hb.size), hb.size⟩
            have HL := HPS.out
            rw [printS_len] at HL
            have hwl := words_len x.op
            have p1 : wc.cell? ⟨wr.heap.size, 1, none⟩ = some (.slice A' x.args.length ca) := P0.cellAt 1 rfl
            have HHL := Lib.hid HL
            have hd6 : done.length ≤ 4000000 := by omega
            have hws : (bs (wordOf x.op)).size ≤ 5 := by rw [bs_size]; exact hwl
            clear HL hwl F0 F1 F2 F3 f0 hb2 OWN1 HB1 hown
            go_wp2_with (at_builtin; refine append_text rfl (.tmp 31) (.tmp 32) 94 9 rfl w.heap.size 5 Tryz.underlying94 Tryz.underlying9 infoB v done.length done rfl P0.1 (bs (wordOf x.op)) rfl (by omega) P0.2.2.1.size P0.2.2.1 ?_; intro v1 w1 h1 hb1 hoth1; have P1 : PrAt w w1 wr.heap.size #[.int .i64 x.op, .slice A' x.args.length ca, .int .i64 x.n, .slice B' kb cb] v1 (done ++ wordOf x.op) := P0.app h1 (by rw [List.length_append, bs_size]) hb1 hoth1)
            have HP1 := Lib.hid P1
            clear h1 hb1 hoth1 P1 P0 p1
            go_loopw [3, 7] (fun v0 i wx => ∃ (v : Value) (j : Nat), v = v0 ∧ i = .int .i64 j ∧ j ≤ x.args.length ∧ PrAt w wx wr.heap.size #[.int .i64 x.op, .slice A' x.args.length ca, .int .i64 x.n, .slice B' kb cb] v (done ++ wordOf x.op ++ argsW (x.args.take j))) (fun _ i _ => x.args.length - (intOf i).toNat)
            case atStart => exact ⟨_, 0, rfl, rfl, by omega, by rw [List.take_zero, show argsW [] = [] from rfl, List.append_nil]; exact HP1.out⟩
            case round =>
              obtain ⟨v2, j, rfl, rfl, hj, P2⟩ := hrel
              rename World => wx
              have q1 : wx.cell? ⟨wr.heap.size, 1, none⟩ = some (.slice A' x.args.length ca) := P2.cellAt 1 rfl
              have hal := argsW_le x.args j
              have HL := HHL.out
              obtain ⟨s2, es2⟩ : ∃ s2, s2 = done ++ wordOf x.op ++ argsW (x.args.take j) := ⟨_, rfl⟩
              have hs2 : s2.length = done.length + (wordOf x.op).length + (argsW (x.args.take j)).length := by rw [es2]; simp only [List.length_append]
              rw [← es2] at P2
              by_cases hjl : j < x.args.length
              · have hjI : (j : Int) < (x.args.length : Int) := by omega
                obtain ⟨a', rfl, hta⟩ := TA.out j hjl
                have hat := argsW_take hjl
                have hal2 := argsW_le x.args (j + 1)
                have hjl6 : j ≤ 4000000 := by rw [hat, List.length_append] at hal2; have := len_args x.args; omega
                rw [hat, List.length_append, List.length_cons] at hal2
                have HS : Hid (s2 ++ [32] ++ x.args[j] = done ++ wordOf x.op ++ argsW (x.args.take (j + 1))) := Lib.hid (by rw [es2, hat]; simp)
                generalize x.args[j] = u at *
                have hb1 : s2.length + 1 ≤ 140737488355328 := by omega
                have hb2 : (s2 ++ [32]).length + (bs u).size ≤ 140737488355328 := by rw [bs_size, List.length_append, List.length_singleton]; omega
                have hb3 : (bs u).size ≤ 4000000 := by rw [bs_size]; omega
                have HTA := Lib.hid hta
                have HP2 := Lib.hid P2
                clear hta hat hal hal2 HL hs2 es2 P2 HP1 HHL HPT HDN hlp
                go_wp2_with (first
                  | (at_builtin; refine append_bytes rfl (.tmp 41) (.tmp 42) 94 rfl w.heap.size 5 Tryz.underlying94 infoB v2 s2.length s2 rfl HP2.out.1 _ [32] rfl 1 rfl rfl hb1 HP2.out.2.2.1.size HP2.out.2.2.1 ?_; intro v3 w3 h3 hb3 hoth3; have P3 : PrAt w w3 wr.heap.size #[.int .i64 x.op, .slice (some a') x.args.length ca, .int .i64 x.n, .slice B' kb cb] v3 (s2 ++ [32]) := HP2.out.app h3 (by simp) hb3 hoth3; have q3 : w3.cell? ⟨wr.heap.size, 1, none⟩ = some (.slice (some a') x.args.length ca) := P3.cellAt 1 rfl; have q4 := HTA.out w3 hb3; have HP3 := Lib.hid P3; clear P3 h3 hb3 hoth3)
                  | (at_builtin; refine append_text rfl (.tmp 44) (.tmp 49) 94 9 rfl w.heap.size 5 Tryz.underlying94 Tryz.underlying9 infoB v3 (s2 ++ [32]).length (s2 ++ [32]) rfl HP3.out.1 (bs u) rfl hb2 HP3.out.2.2.1.size HP3.out.2.2.1 ?_; intro v4 w4 h4 hb4 hoth4; have P4 : PrAt w w4 wr.heap.size #[.int .i64 x.op, .slice (some a') x.args.length ca, .int .i64 x.n, .slice B' kb cb] v4 (s2 ++ [32] ++ u) := HP3.out.app h4 (by simp only [List.length_append, bs_size]) hb4 hoth4; have HP4 := Lib.hid P4; clear P4 h4 hb4 hoth4))
                go_roundw
                case rel => exact ⟨_, j + 1, rfl, by go_num, by omega, by rw [← HS.out]; exact HP4.out⟩
                case measure => simp [intOf]; omega
              · obtain rfl : j = x.args.length := by omega
                rw [List.take_length] at es2 hs2 hal
                -- TAIL
                have q20 := P2.cellAt 0 rfl
                have HP2 := Lib.hid P2
                by_cases o9 : x.op = 9
                · have g9 : (x.op == 9) = true := by simp [o9]
                  have hT : s2.length + 1 + (Lib.itoa x.n).length + 1 + (print x.block).length + 4 ≤ 4000000 := by rw [hs2]; simp only [if_pos o9, if_pos (Or.inl o9 : x.op = 9 ∨ x.op = 10)] at HL; omega
                  have HS : Hid (s2 ++ [32] ++ Lib.itoa x.n ++ [10] ++ print x.block ++ [101, 110, 100, 10] = done ++ printS x) := Lib.hid (by rw [es2, printS]; simp only [if_pos o9, if_pos (Or.inl o9 : x.op = 9 ∨ x.op = 10)]; simp)
                  have hlb : (print x.block).length ≤ 4000000 := by omega
                  have HO := Lib.hid hs2
                  clear hs2 es2 HL hal P2 o9
                  go_wp2_with (first
                    | (at_builtin; refine append_bytes rfl (.tmp 54) (.tmp 55) 94 rfl w.heap.size 5 Tryz.underlying94 infoB v2 s2.length s2 rfl HP2.out.1 _ [32] rfl 1 rfl rfl (by first | omega | (simp only [List.length_append, List.length_cons, List.length_nil]; omega)) HP2.out.2.2.1.size HP2.out.2.2.1 ?_; intro v3 w3 h3 hb3 hoth3; have P3 : PrAt w w3 wr.heap.size #[.int .i64 x.op, .slice A' x.args.length ca, .int .i64 x.n, .slice B' kb cb] v3 (s2 ++ [32]) := HP2.out.app h3 (by simp only [List.length_append]; rfl) hb3 hoth3; have q30 := P3.cellAt 0 rfl; have q32 := P3.cellAt 2 rfl; have q33 := P3.cellAt 3 rfl; have HP3 := Lib.hid P3; clear P3 h3 hb3 hoth3)
                    | (go_at_call 126; (with_reducible refine (digits_any x.n HNM.out.1.1 HNM.out.1.2 w3).mono ?_); rintro e w4 ⟨rfl, hb4⟩; have P4 : PrAt w w4 wr.heap.size #[.int .i64 x.op, .slice A' x.args.length ca, .int .i64 x.n, .slice B' kb cb] v3 (s2 ++ [32]) := HP3.out.on hb4; have q40 := P4.cellAt 0 rfl; have q42 := P4.cellAt 2 rfl; have q43 := P4.cellAt 3 rfl; have HP4 := Lib.hid P4; clear P4 hb4)
                    | (at_builtin; refine append_text rfl (.tmp 57) (.tmp 60) 94 9 rfl w.heap.size 5 Tryz.underlying94 Tryz.underlying9 infoB v3 (s2 ++ [32]).length (s2 ++ [32]) rfl HP4.out.1 (bs (Lib.itoa x.n)) rfl (by first | omega | (simp only [List.length_append, List.length_cons, List.length_nil, bs_size]; omega)) HP4.out.2.2.1.size HP4.out.2.2.1 ?_; intro v5 w5 h5 hb5 hoth5; have P5 : PrAt w w5 wr.heap.size #[.int .i64 x.op, .slice A' x.args.length ca, .int .i64 x.n, .slice B' kb cb] v5 (s2 ++ [32] ++ Lib.itoa x.n) := HP4.out.app h5 (by simp only [List.length_append, bs_size]) hb5 hoth5; have q50 := P5.cellAt 0 rfl; have q52 := P5.cellAt 2 rfl; have q53 := P5.cellAt 3 rfl; have HP5 := Lib.hid P5; clear P5 h5 hb5 hoth5)
                    | (at_builtin; refine append_bytes rfl (.tmp 62) (.tmp 63) 94 rfl w.heap.size 5 Tryz.underlying94 infoB v5 (s2 ++ [32] ++ Lib.itoa x.n).length (s2 ++ [32] ++ Lib.itoa x.n) rfl HP5.out.1 _ [10] rfl 1 rfl rfl (by first | omega | (simp only [List.length_append, List.length_cons, List.length_nil]; omega)) HP5.out.2.2.1.size HP5.out.2.2.1 ?_; intro v6 w6 h6 hb6 hoth6; have P6 : PrAt w w6 wr.heap.size #[.int .i64 x.op, .slice A' x.args.length ca, .int .i64 x.n, .slice B' kb cb] v6 (s2 ++ [32] ++ Lib.itoa x.n ++ [10]) := HP5.out.app h6 (by simp only [List.length_append]; rfl) hb6 hoth6; have q60 := P6.cellAt 0 rfl; have q62 := P6.cellAt 2 rfl; have q63 := P6.cellAt 3 rfl; have HP6 := Lib.hid P6; clear P6 h6 hb6 hoth6)
                    | (go_at_call 69; (with_reducible refine (IH.out hlb B' kb cb w6 ok (BA.out w6 HP6.out.below)).mono ?_); rintro e w7 ⟨rfl, hb7⟩; have P7 : PrAt w w7 wr.heap.size #[.int .i64 x.op, .slice A' x.args.length ca, .int .i64 x.n, .slice B' kb cb] v6 (s2 ++ [32] ++ Lib.itoa x.n ++ [10]) := HP6.out.on hb7; have q70 := P7.cellAt 0 rfl; have q72 := P7.cellAt 2 rfl; have q73 := P7.cellAt 3 rfl; have HP7 := Lib.hid P7; clear P7 hb7)
                    | (at_builtin; refine append_text rfl (.tmp 73) (.tmp 76) 94 9 rfl w.heap.size 5 Tryz.underlying94 Tryz.underlying9 infoB v6 (s2 ++ [32] ++ Lib.itoa x.n ++ [10]).length (s2 ++ [32] ++ Lib.itoa x.n ++ [10]) rfl HP7.out.1 (bs (print x.block)) rfl (by first | omega | (simp only [List.length_append, List.length_cons, List.length_nil, bs_size]; omega)) HP7.out.2.2.1.size HP7.out.2.2.1 ?_; intro v8 w8 h8 hb8 hoth8; have P8 : PrAt w w8 wr.heap.size #[.int .i64 x.op, .slice A' x.args.length ca, .int .i64 x.n, .slice B' kb cb] v8 (s2 ++ [32] ++ Lib.itoa x.n ++ [10] ++ print x.block) := HP7.out.app h8 (by simp only [List.length_append, bs_size]) hb8 hoth8; have q80 := P8.cellAt 0 rfl; have q82 := P8.cellAt 2 rfl; have q83 := P8.cellAt 3 rfl; have HP8 := Lib.hid P8; clear P8 h8 hb8 hoth8)
                    | (at_builtin; refine append_text rfl (.tmp 78) _ 94 9 rfl w.heap.size 5 Tryz.underlying94 Tryz.underlying9 infoB v8 (s2 ++ [32] ++ Lib.itoa x.n ++ [10] ++ print x.block).length (s2 ++ [32] ++ Lib.itoa x.n ++ [10] ++ print x.block) rfl HP8.out.1 ⟨#[101, 110, 100, 10]⟩ rfl (show _ + 4 ≤ 140737488355328 by simp only [List.length_append, List.length_cons, List.length_nil]; omega) HP8.out.2.2.1.size HP8.out.2.2.1 ?_; intro v9 w9 h9 hb9 hoth9; have P9 : PrAt w w9 wr.heap.size #[.int .i64 x.op, .slice A' x.args.length ca, .int .i64 x.n, .slice B' kb cb] v9 (s2 ++ [32] ++ Lib.itoa x.n ++ [10] ++ print x.block ++ [101, 110, 100, 10]) := HP8.out.app h9 (by simp only [List.length_append]; rfl) hb9 hoth9; have q90 := P9.cellAt 0 rfl; have q92 := P9.cellAt 2 rfl; have q93 := P9.cellAt 3 rfl; have HP9 := Lib.hid P9; clear P9 h9 hb9 hoth9))
                  go_roundw
                  case rel => exact ⟨v9, k + 1, done ++ printS x, rfl, by go_num, by omega, HPT.out.symm, by rw [← HS.out]; exact HP9.out.1, HP9.out.2.2.1⟩
                  case measure => simp [intOf]; omega
                · by_cases o10 : x.op = 10
                  · have g9 : (x.op == 9) = false := by simp [o9]
                    have g10 : (x.op == 10) = true := by simp [o10]
                    have hT : s2.length + 1 + (print x.block).length + 4 ≤ 4000000 := by rw [hs2]; simp only [if_neg o9, if_pos (Or.inr o10 : x.op = 9 ∨ x.op = 10)] at HL; omega
                    have HS : Hid (s2 ++ [10] ++ print x.block ++ [101, 110, 100, 10] = done ++ printS x) := Lib.hid (by rw [es2, printS]; simp only [if_neg o9, if_pos (Or.inr o10 : x.op = 9 ∨ x.op = 10)]; simp)
                    have hlb : (print x.block).length ≤ 4000000 := by omega
                    have HO := Lib.hid hs2
                    clear hs2 es2 HL hal P2 o9 o10
                    go_wp2_with (first
                      | (at_builtin; refine append_bytes rfl (.tmp 62) (.tmp 63) 94 rfl w.heap.size 5 Tryz.underlying94 infoB v2 (s2).length (s2) rfl HP2.out.1 _ [10] rfl 1 rfl rfl (by first | omega | (simp only [List.length_append, List.length_cons, List.length_nil]; omega)) HP2.out.2.2.1.size HP2.out.2.2.1 ?_; intro v6 w6 h6 hb6 hoth6; have P6 : PrAt w w6 wr.heap.size #[.int .i64 x.op, .slice A' x.args.length ca, .int .i64 x.n, .slice B' kb cb] v6 (s2 ++ [10]) := HP2.out.app h6 (by simp only [List.length_append]; rfl) hb6 hoth6; have q60 := P6.cellAt 0 rfl; have q62 := P6.cellAt 2 rfl; have q63 := P6.cellAt 3 rfl; have HP6 := Lib.hid P6; clear P6 h6 hb6 hoth6)
                      | (go_at_call 69; (with_reducible refine (IH.out hlb B' kb cb w6 ok (BA.out w6 HP6.out.below)).mono ?_); rintro e w7 ⟨rfl, hb7⟩; have P7 : PrAt w w7 wr.heap.size #[.int .i64 x.op, .slice A' x.args.length ca, .int .i64 x.n, .slice B' kb cb] v6 (s2 ++ [10]) := HP6.out.on hb7; have q70 := P7.cellAt 0 rfl; have q72 := P7.cellAt 2 rfl; have q73 := P7.cellAt 3 rfl; have HP7 := Lib.hid P7; clear P7 hb7)
                      | (at_builtin; refine append_text rfl (.tmp 73) (.tmp 76) 94 9 rfl w.heap.size 5 Tryz.underlying94 Tryz.underlying9 infoB v6 (s2 ++ [10]).length (s2 ++ [10]) rfl HP7.out.1 (bs (print x.block)) rfl (by first | omega | (simp only [List.length_append, List.length_cons, List.length_nil, bs_size]; omega)) HP7.out.2.2.1.size HP7.out.2.2.1 ?_; intro v8 w8 h8 hb8 hoth8; have P8 : PrAt w w8 wr.heap.size #[.int .i64 x.op, .slice A' x.args.length ca, .int .i64 x.n, .slice B' kb cb] v8 (s2 ++ [10] ++ print x.block) := HP7.out.app h8 (by simp only [List.length_append, bs_size]) hb8 hoth8; have q80 := P8.cellAt 0 rfl; have q82 := P8.cellAt 2 rfl; have q83 := P8.cellAt 3 rfl; have HP8 := Lib.hid P8; clear P8 h8 hb8 hoth8)
                      | (at_builtin; refine append_text rfl (.tmp 78) _ 94 9 rfl w.heap.size 5 Tryz.underlying94 Tryz.underlying9 infoB v8 (s2 ++ [10] ++ print x.block).length (s2 ++ [10] ++ print x.block) rfl HP8.out.1 ⟨#[101, 110, 100, 10]⟩ rfl (show _ + 4 ≤ 140737488355328 by simp only [List.length_append, List.length_cons, List.length_nil]; omega) HP8.out.2.2.1.size HP8.out.2.2.1 ?_; intro v9 w9 h9 hb9 hoth9; have P9 : PrAt w w9 wr.heap.size #[.int .i64 x.op, .slice A' x.args.length ca, .int .i64 x.n, .slice B' kb cb] v9 (s2 ++ [10] ++ print x.block ++ [101, 110, 100, 10]) := HP8.out.app h9 (by simp only [List.length_append]; rfl) hb9 hoth9; have q90 := P9.cellAt 0 rfl; have q92 := P9.cellAt 2 rfl; have q93 := P9.cellAt 3 rfl; have HP9 := Lib.hid P9; clear P9 h9 hb9 hoth9))
                    go_roundw
                    case rel => exact ⟨v9, k + 1, done ++ printS x, rfl, by go_num, by omega, HPT.out.symm, by rw [← HS.out]; exact HP9.out.1, HP9.out.2.2.1⟩
                    case measure => simp [intOf]; omega
                  · have g9 : (x.op == 9) = false := by simp [o9]
                    have g10 : (x.op == 10) = false := by simp [o10]
                    have hT : s2.length + 1 ≤ 4000000 := by rw [hs2]; simp only [if_neg o9, if_neg (fun h => h.elim o9 o10 : ¬ (x.op = 9 ∨ x.op = 10))] at HL; omega
                    have HS : Hid (s2 ++ [10] = done ++ printS x) := Lib.hid (by rw [es2, printS]; simp only [if_neg o9, if_neg (fun h => h.elim o9 o10 : ¬ (x.op = 9 ∨ x.op = 10))]; simp)
                    have HO := Lib.hid hs2
                    clear hs2 es2 HL hal P2 o9 o10
                    go_wp2_with (first
                      | (at_builtin; refine append_bytes rfl (.tmp 62) (.tmp 63) 94 rfl w.heap.size 5 Tryz.underlying94 infoB v2 (s2).length (s2) rfl HP2.out.1 _ [10] rfl 1 rfl rfl (by first | omega | (simp only [List.length_append, List.length_cons, List.length_nil]; omega)) HP2.out.2.2.1.size HP2.out.2.2.1 ?_; intro v6 w6 h6 hb6 hoth6; have P6 : PrAt w w6 wr.heap.size #[.int .i64 x.op, .slice A' x.args.length ca, .int .i64 x.n, .slice B' kb cb] v6 (s2 ++ [10]) := HP2.out.app h6 (by simp only [List.length_append]; rfl) hb6 hoth6; have q60 := P6.cellAt 0 rfl; have q62 := P6.cellAt 2 rfl; have q63 := P6.cellAt 3 rfl; have HP6 := Lib.hid P6; clear P6 h6 hb6 hoth6))
                    go_roundw
                    case rel => exact ⟨v6, k + 1, done ++ printS x, rfl, by go_num, by omega, HPT.out.symm, by rw [← HS.out]; exact HP6.out.1, HP6.out.2.2.1⟩
                    case measure => simp [intOf]; omega
                -- /TAIL
      · obtain rfl : k = l.length := by omega
        rw [List.take_length] at hdone
        subst hdone
        have hcv := conv_own Tryz.underlying94 Tryz.underlying5 Tryz.underlying9 hown
        obtain ⟨Av, nv, cv, rfl⟩ := own_form hown
        go_wp2_with (fail)
        go_ret
        exact ⟨rfl, hb⟩
end Go.Proofs.YtdidnlkilleljaaGreatDoor.Lg
/- LgRmem, what a claim needs of it (prune.py). -/
namespace Go.Proofs.YtdidnlkilleljaaGreatDoor.Lg
open Go.RowKit
set_option linter.unusedVariables false
def Slot (w : World) (b b' : Nat) (X : Nat → Prop) (v : Value) (out : List Stp) : Prop :=
  ∃ cells, w.ownsRow b 61 4 v out.length cells ∧ RowAt w (fun x => b ≤ x ∧ x < b' ∧ some x ≠ v.ownBlock ∧ ¬ X x) cells out ∧ ∀ g, v.ownBlock = some g → g < b' ∧ ¬ X g
theorem Slot.none_ (w : World) (b b' : Nat) (X : Nat → Prop) : Slot w b b' X (.slice none 0 0) [] :=
  ⟨[], World.ownsRow_nil _ _ _ _, .nil, fun g h => by cases h⟩
theorem Slot.keep {w w' : World} {b b' b2 : Nat} {X X' : Nat → Prop} {v : Value} {out : List Stp} (h : Slot w b b' X v out) (hb : b' ≤ b2)
    (hk : ∀ x, b ≤ x → x < b' → x < w.heap.size → ¬ X x → ¬ X' x ∧ w'.heap[x]? = w.heap[x]?) : Slot w' b b2 X' v out := by
  obtain ⟨cells, h1, h2, h3⟩ := h
  refine ⟨cells, ?_, h2.mono fun x hx hs => ?_, fun g hg => ?_⟩
  · refine ⟨h1.1, ?_⟩
    rcases h1.2 with h4 | ⟨g, cap, cur, hv, hB, hg, r⟩
    · exact .inl h4
    · have h5 := h3 g (by rw [hv]; rfl)
      exact .inr ⟨g, cap, cur, hv, hB, ((hk g hB h5.1 (lt_of_block hg) h5.2).2).trans hg, r⟩
  · have := hk x hx.1 hx.2.1 hs hx.2.2.2
    exact ⟨⟨hx.1, by have := hx.2.1; omega, hx.2.2.1, this.1⟩, this.2⟩
  · have h5 := own_block h1 hg
    have h6 := h3 g hg
    exact ⟨by omega, (hk g h5.1 h6.1 h5.2 h6.2).1⟩
inductive Fr (w : World) (X : Nat → Prop) (B0 : Nat) : Nat → List Frame → List Value → List Value → Prop
  | nil {b : Nat} : B0 ≤ b → Fr w X B0 b [] [] []
  | cons {b b' : Nat} {f : Frame} {fs : List Frame} {hc vs : List Value} {v : Value} {A : Option Addr} {k c : Nat} :
      Fr w X B0 b fs hc vs → b ≤ b' → Slot w b b' X v f.out → k = f.args.length → k ≤ c → Lies w (fun x => b ≤ x ∧ x < b' ∧ some x ≠ v.ownBlock ∧ ¬ X x) 1 A k (strV f.args) →
      Fr w X B0 b' (f :: fs) (hc ++ [.int .i64 f.op, .slice A k c, .int .i64 f.n, .slice none 0 0]) (vs ++ [v])
theorem Fr.keep {w w' : World} {X X' : Nat → Prop} {B0 b : Nat} {fs : List Frame} {hc vs : List Value} (h : Fr w X B0 b fs hc vs)
    (hk : ∀ x, x < b → x < w.heap.size → ¬ X x → ¬ X' x ∧ w'.heap[x]? = w.heap[x]?) : Fr w' X' B0 b fs hc vs := by
  induction h with
  | nil h => exact .nil h
  | cons h1 hb hs h3 h4 h5 ih =>
    refine .cons (ih fun x hx => hk x (by omega)) hb (hs.keep (Nat.le_refl _) fun x _ hx => hk x hx) h3 h4 (h5.mono (by omega) fun x hx hlt => ?_)
    have := hk x hx.2.1 hlt hx.2.2.2
    exact ⟨⟨hx.1, hx.2.1, hx.2.2.1, this.1⟩, this.2⟩
theorem Fr.len {w : World} {X : Nat → Prop} {B0 b : Nat} {fs : List Frame} {hc vs : List Value} (h : Fr w X B0 b fs hc vs) : hc.length = fs.length * 4 ∧ vs.length = fs.length := by
  induction h with
  | nil h => exact ⟨rfl, rfl⟩
  | cons h1 hb hs h3 h4 h5 ih => simp only [List.length_append, List.length_cons, List.length_nil]; omega
theorem Fr.up {w : World} {X : Nat → Prop} {B0 b b2 : Nat} {fs : List Frame} {hc vs : List Value} (h : Fr w X B0 b fs hc vs) (hb : b ≤ b2) : Fr w X B0 b2 fs hc vs := by
  cases h with
  | nil h => exact .nil (Nat.le_trans h hb)
  | cons h1 h2 hs h3 h4 h5 =>
    exact .cons h1 (Nat.le_trans h2 hb) (hs.keep hb fun x _ _ _ hx => ⟨hx, rfl⟩) h3 h4 (h5.mono (by omega) fun x hx _ => ⟨⟨hx.1, by have := hx.2.1; omega, hx.2.2⟩, rfl⟩)
theorem Fr.inv {w : World} {X : Nat → Prop} {B0 b' : Nat} {f : Frame} {fs : List Frame} {hc vs : List Value} (h : Fr w X B0 b' (f :: fs) hc vs) :
    ∃ b hc' vs' v A k c, hc = hc' ++ [.int .i64 f.op, .slice A k c, .int .i64 f.n, .slice none 0 0] ∧ vs = vs' ++ [v] ∧ Fr w X B0 b fs hc' vs' ∧ b ≤ b' ∧ Slot w b b' X v f.out ∧ k = f.args.length ∧ k ≤ c ∧ Lies w (fun x => b ≤ x ∧ x < b' ∧ some x ≠ v.ownBlock ∧ ¬ X x) 1 A k (strV f.args) := by
  cases h with
  | cons h1 h2 h3 h4 h5 h6 => exact ⟨_, _, _, _, _, _, _, rfl, rfl, h1, h2, h3, h4, h5, h6⟩
theorem Fr.base {w : World} {X : Nat → Prop} {B0 b : Nat} {fs : List Frame} {hc vs : List Value} (h : Fr w X B0 b fs hc vs) : B0 ≤ b := by
  induction h with
  | nil h => exact h
  | cons h1 h2 h3 h4 h5 h6 ih => omega
theorem own_take {w : World} {B g cap n m : Nat} {e : TypeId} {size : Nat} {xs : List Value} (h : w.ownsRow B e size (.slice (some ⟨g, 0, none⟩) n cap) n xs) (hm : m ≤ n) :
    w.ownsRow B e size (.slice (some ⟨g, 0, none⟩) m cap) m (xs.take (m * size)) := by
  refine ⟨by rw [List.length_take, h.1]; exact Nat.min_eq_left (Nat.mul_le_mul_right _ hm), ?_⟩
  rcases h.2 with ⟨h1, _⟩ | ⟨g', cap', cur, hv, hB, hh, h1, h2, h3, h4⟩
  · cases h1
  · injection hv with hA _ hc
    injection hA with hA
    injection hA with hA _ _
    subst hA
    subst hc
    refine .inr ⟨g, cap, cur, rfl, hB, hh, by omega, h2, h3, ?_⟩
    rw [← h4, List.take_take]
    rw [Nat.min_eq_left (Nat.mul_le_mul_right _ hm)]
def own2 (h k : Value) : Nat → Prop := fun x => some x = h.ownBlock ∨ some x = k.ownBlock
abbrev okS (b b' : Nat) (X : Nat → Prop) (v : Value) : Nat → Prop := fun x => b ≤ x ∧ x < b' ∧ some x ≠ v.ownBlock ∧ ¬ X x
theorem slot_push {w w2 : World} {b b' : Nat} {X X' : Nat → Prop} {v v2 : Value} {cells : List Value} {out : List Stp} {op n : Int} {A Bk : Option Addr} {k c kb cb : Nat} {args : List Lg.B} {inn : List Stp}
    (hr : RowAt w (okS b b' X v) cells out) (hb : b' ≤ w.heap.size) (hs : w.heap.size ≤ w2.heap.size)
    (hown : w2.ownsRow b 61 4 v2 (out.length + 1) (cells ++ [.int .i64 op, .slice A k c, .int .i64 n, .slice Bk kb cb]))
    (hsame : ∀ x, b ≤ x → x < w.heap.size → some x ≠ v.ownBlock → ¬ X x → ¬ X' x ∧ w2.heap[x]? = w.heap[x]?)
    (hat : ∀ g, v2.ownBlock = some g → (v.ownBlock = some g ∨ w.heap.size ≤ g) ∧ ¬ X' g)
    (hk : k = args.length) (hc : k ≤ c) (ha : Lies w (okS b w.heap.size X v) 1 A k (strV args)) (hkb : kb ≤ cb) (hin : StepsAt w (okS b w.heap.size X v) Bk kb inn) :
    Slot w2 b w2.heap.size X' v2 (out ++ [⟨op, args, n, inn⟩]) := by
  obtain ⟨h1, bc, h2, h3⟩ := hin
  have hr2 : RowAt w (okS b w.heap.size X v) cells out := hr.mono fun x hx _ => ⟨⟨hx.1, by have := hx.2.1; omega, hx.2.2⟩, rfl⟩
  have h := hr2.append (RowAt.cons (op := op) (n := n) hk hc ha h1 hkb h2 h3 .nil)
  refine ⟨_, by rw [List.length_append]; exact hown, h.mono fun x hx hlt => ?_, fun g hg => ⟨(own_block hown hg).2, (hat g hg).2⟩⟩
  obtain ⟨g1, g2⟩ := hsame x hx.1 hlt hx.2.2.1 hx.2.2.2
  refine ⟨⟨hx.1, by omega, fun e => ?_, g1⟩, g2⟩
  rcases (hat x e.symm).1 with h5 | h5
  · exact hx.2.2.1 h5.symm
  · omega
theorem Slot.steps {w : World} {b b' : Nat} {X : Nat → Prop} {v : Value} {out : List Stp} (h : Slot w b b' X v out) : ∃ A k c, v = .slice A k c ∧ k ≤ c ∧ StepsAt w (fun x => b ≤ x ∧ x < b' ∧ ¬ X x) A k out := by
  obtain ⟨cells, ho, hr, hx⟩ := h
  have hr2 := hr.mono (w' := w) (ok' := fun x => b ≤ x ∧ x < b' ∧ ¬ X x) (fun x h _ => ⟨⟨h.1, h.2.1, h.2.2.2⟩, rfl⟩)
  rcases ho.2 with ⟨rfl, h0⟩ | ⟨g, cap, cur, rfl, hB, hg, h1, h2, h3, h4⟩
  · have : out = [] := List.eq_nil_of_length_eq_zero h0
    subst this
    cases hr2
    exact ⟨none, 0, 0, rfl, Nat.le_refl _, rfl, [], Lies.none_, .nil⟩
  · have h5 := hx g rfl
    refine ⟨_, _, _, rfl, h1, rfl, cells, ⟨ho.1, fun _ => ⟨_, rfl, ⟨hB, h5.1, h5.2⟩, fun j u hu => ?_⟩⟩, hr2⟩
    exact ho.cells (g := g) rfl j u hu
theorem set_four {xs : List Value} {a b c d a' b' c' d' : Value} {n : Nat} (hn : xs.length = n * 4) :
    ((((xs ++ [a, b, c, d]).set (n * 4) a').set (n * 4 + 1) b').set (n * 4 + 2) c').set (n * 4 + 3) d' = xs ++ [a', b', c', d'] := by
  rw [← hn]
  simp
end Go.Proofs.YtdidnlkilleljaaGreatDoor.Lg
