/- The contract of the reference's step. -/
import Derived.Test.YtoofflnaebkigaaDoorLgRsA
import Derived.Test.YtoofflnaebkigaaDoorLgRsB
import Derived.Test.YtoofflnaebkigaaDoorLgRsC
namespace Go.Proofs.YtoofflnaebkigaaDoor.Lg
open Go.RowKit
set_option linter.unusedVariables false
set_option maxRecDepth 100000
theorem rstep_any (ad : Addr) (x : ByteArray) (l : List ByteArray) (c : Nat) (w : World) (hr : Strs w (some ad) (x :: l)) (hl : l.length ≤ 1000000) (hs : ∀ p ∈ l, p.size ≤ 1000000) (hc : l.length + 1 ≤ c) :
    Calls Tryd.prog 42 #[.slice (some ad) (l.length + 1) c] w fun e w' => StepSays w' (fun b => b = ad.block) (tl x :: l.map tl) e ∧ Below w.heap.size w w' := by
  by_cases n1 : x = ⟨#[112, 117, 116]⟩
  · subst n1
    cases l with
    | nil => exact rstep_put_nil ad c w hr hc
    | cons y l => exact rstep_put ad y l c w hr hl hs hc
  by_cases n2 : x = ⟨#[99, 111, 112, 121]⟩
  · subst n2
    cases l with
    | nil => exact rstep_copy_nil ad c w hr hc
    | cons y l => exact rstep_copy ad y l c w hr hl hs hc
  by_cases n3 : x = ⟨#[99, 97, 116]⟩
  · subst n3
    cases l with
    | nil => exact rstep_cat_nil ad c w hr hc
    | cons y l => exact rstep_cat ad y l c w hr hl hs hc
  by_cases n4 : x = ⟨#[117, 112, 112, 101, 114]⟩
  · subst n4
    cases l with
    | nil => exact rstep_upper_nil ad c w hr hc
    | cons y l => exact rstep_upper ad y l c w hr hl hs hc
  by_cases n5 : x = ⟨#[115, 111, 114, 116]⟩
  · subst n5
    cases l with
    | nil => exact rstep_sort_nil ad c w hr hc
    | cons y l => exact rstep_sort ad y l c w hr hl hs hc
  by_cases n6 : x = ⟨#[100, 114, 111, 112]⟩
  · subst n6
    cases l with
    | nil => exact rstep_drop_nil ad c w hr hc
    | cons y l => exact rstep_drop ad y l c w hr hl hs hc
  by_cases n7 : x = ⟨#[110, 101, 101, 100]⟩
  · subst n7
    cases l with
    | nil => exact rstep_need_nil ad c w hr hc
    | cons y l => exact rstep_need ad y l c w hr hl hs hc
  by_cases n8 : x = ⟨#[102, 97, 105, 108]⟩
  · subst n8
    cases l with
    | nil => exact rstep_fail_nil ad c w hr hc
    | cons y l => exact rstep_fail ad y l c w hr hl hs hc
  by_cases n9 : x = ⟨#[108, 111, 111, 112]⟩
  · subst n9
    cases l with
    | nil => exact rstep_loop_nil ad c w hr hc
    | cons y l => exact rstep_loop ad y l c w hr hl hs hc
  by_cases n10 : x = ⟨#[105, 102]⟩
  · subst n10
    cases l with
    | nil => exact rstep_if_nil ad c w hr hc
    | cons y l => exact rstep_if ad y l c w hr hl hs hc
  exact rstep_no ad x l c w hr hl hc n1 n2 n3 n4 n5 n6 n7 n8 n9 n10
end Go.Proofs.YtoofflnaebkigaaDoor.Lg
