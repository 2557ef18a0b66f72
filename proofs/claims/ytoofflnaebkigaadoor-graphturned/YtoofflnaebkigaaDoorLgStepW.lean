/- What the words of a line say, word by word. No program in sight. -/
import Derived.Test.YtoofflnaebkigaaDoorLgEq
namespace Go.Proofs.YtoofflnaebkigaaDoor.Lg
set_option linter.unusedVariables false
theorem stepW_cons (x : B) (a : List B) : stepW (x :: a) =
    if x = [112, 117, 116] then (if a.length = 2 ∧ (a.take 1).all pathOk = true ∧ (a.drop 1).all textOk = true then some ((1 : Int), a, (0 : Int)) else none) else
    if x = [99, 111, 112, 121] then (if a.length = 2 ∧ a.all pathOk = true then some ((2 : Int), a, (0 : Int)) else none) else
    if x = [99, 97, 116] then (if 2 ≤ a.length ∧ a.length ≤ 8 ∧ a.all pathOk = true then some ((3 : Int), a, (0 : Int)) else none) else
    if x = [117, 112, 112, 101, 114] then (if a.length = 1 ∧ a.all pathOk = true then some ((4 : Int), a, (0 : Int)) else none) else
    if x = [115, 111, 114, 116] then (if a.length = 1 ∧ a.all pathOk = true then some ((5 : Int), a, (0 : Int)) else none) else
    if x = [100, 114, 111, 112] then (if a.length = 1 ∧ a.all pathOk = true then some ((6 : Int), a, (0 : Int)) else none) else
    if x = [110, 101, 101, 100] then (if a.length = 1 ∧ a.all nameOk = true then some ((7 : Int), a, (0 : Int)) else none) else
    if x = [102, 97, 105, 108] then (if a.length = 1 ∧ a.all textOk = true then some ((8 : Int), a, (0 : Int)) else none) else
    if x = [108, 111, 111, 112] then (match a with | [x] => (match number x with | some k => some ((9 : Int), [], (k : Int)) | none => none) | _ => none) else
    if x = [105, 102] then (if a.length = 1 ∧ a.all pathOk = true then some ((10 : Int), a, (0 : Int)) else none) else
    none := by
  rcases a with _ | ⟨y, _ | ⟨z, t⟩⟩
  · rfl
  · unfold stepW; cases number y <;> rfl
  · rfl
theorem stepW_put (a : List B) : stepW ([112, 117, 116] :: a) = (if a.length = 2 ∧ (a.take 1).all pathOk = true ∧ (a.drop 1).all textOk = true then some ((1 : Int), a, (0 : Int)) else none) := by
  rw [stepW_cons]
  rw [if_pos rfl]
theorem stepW_copy (a : List B) : stepW ([99, 111, 112, 121] :: a) = (if a.length = 2 ∧ a.all pathOk = true then some ((2 : Int), a, (0 : Int)) else none) := by
  rw [stepW_cons]
  rw [if_neg (by decide), if_pos rfl]
theorem stepW_cat (a : List B) : stepW ([99, 97, 116] :: a) = (if 2 ≤ a.length ∧ a.length ≤ 8 ∧ a.all pathOk = true then some ((3 : Int), a, (0 : Int)) else none) := by
  rw [stepW_cons]
  rw [if_neg (by decide), if_neg (by decide), if_pos rfl]
theorem stepW_upper (a : List B) : stepW ([117, 112, 112, 101, 114] :: a) = (if a.length = 1 ∧ a.all pathOk = true then some ((4 : Int), a, (0 : Int)) else none) := by
  rw [stepW_cons]
  rw [if_neg (by decide), if_neg (by decide), if_neg (by decide), if_pos rfl]
theorem stepW_sort (a : List B) : stepW ([115, 111, 114, 116] :: a) = (if a.length = 1 ∧ a.all pathOk = true then some ((5 : Int), a, (0 : Int)) else none) := by
  rw [stepW_cons]
  rw [if_neg (by decide), if_neg (by decide), if_neg (by decide), if_neg (by decide), if_pos rfl]
theorem stepW_drop (a : List B) : stepW ([100, 114, 111, 112] :: a) = (if a.length = 1 ∧ a.all pathOk = true then some ((6 : Int), a, (0 : Int)) else none) := by
  rw [stepW_cons]
  rw [if_neg (by decide), if_neg (by decide), if_neg (by decide), if_neg (by decide), if_neg (by decide), if_pos rfl]
theorem stepW_need (a : List B) : stepW ([110, 101, 101, 100] :: a) = (if a.length = 1 ∧ a.all nameOk = true then some ((7 : Int), a, (0 : Int)) else none) := by
  rw [stepW_cons]
  rw [if_neg (by decide), if_neg (by decide), if_neg (by decide), if_neg (by decide), if_neg (by decide), if_neg (by decide), if_pos rfl]
theorem stepW_fail (a : List B) : stepW ([102, 97, 105, 108] :: a) = (if a.length = 1 ∧ a.all textOk = true then some ((8 : Int), a, (0 : Int)) else none) := by
  rw [stepW_cons]
  rw [if_neg (by decide), if_neg (by decide), if_neg (by decide), if_neg (by decide), if_neg (by decide), if_neg (by decide), if_neg (by decide), if_pos rfl]
theorem stepW_loop (a : List B) : stepW ([108, 111, 111, 112] :: a) = (match a with | [x] => (match number x with | some k => some ((9 : Int), [], (k : Int)) | none => none) | _ => none) := by
  rw [stepW_cons]
  rw [if_neg (by decide), if_neg (by decide), if_neg (by decide), if_neg (by decide), if_neg (by decide), if_neg (by decide), if_neg (by decide), if_neg (by decide), if_pos rfl]
theorem stepW_if (a : List B) : stepW ([105, 102] :: a) = (if a.length = 1 ∧ a.all pathOk = true then some ((10 : Int), a, (0 : Int)) else none) := by
  rw [stepW_cons]
  rw [if_neg (by decide), if_neg (by decide), if_neg (by decide), if_neg (by decide), if_neg (by decide), if_neg (by decide), if_neg (by decide), if_neg (by decide), if_neg (by decide), if_pos rfl]
theorem stepW_no {x : B} (a : List B) (h1 : x ≠ [112, 117, 116]) (h2 : x ≠ [99, 111, 112, 121]) (h3 : x ≠ [99, 97, 116]) (h4 : x ≠ [117, 112, 112, 101, 114]) (h5 : x ≠ [115, 111, 114, 116]) (h6 : x ≠ [100, 114, 111, 112]) (h7 : x ≠ [110, 101, 101, 100]) (h8 : x ≠ [102, 97, 105, 108]) (h9 : x ≠ [108, 111, 111, 112]) (h10 : x ≠ [105, 102]) : stepW (x :: a) = none := by
  rw [stepW_cons]
  rw [if_neg h1, if_neg h2, if_neg h3, if_neg h4, if_neg h5, if_neg h6, if_neg h7, if_neg h8, if_neg h9, if_neg h10]
end Go.Proofs.YtoofflnaebkigaaDoor.Lg
