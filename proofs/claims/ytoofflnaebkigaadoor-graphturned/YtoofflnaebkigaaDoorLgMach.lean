/- Plain law of the stack machine of a parse: with the blocks' heads on a stack it answers what the recursion does. No program in sight. -/
import Derived.Test.YtoofflnaebkigaaDoorLgLaw
namespace Go.Proofs.YtoofflnaebkigaaDoor.Lg
set_option linter.unusedVariables false
structure Frame where
  op : Int
  args : List B
  n : Int
  out : List Stp
/-- the machine: frames (the innermost first), the steps of the block that is open, the lines left -/
def mach : List Frame → List Stp → List B → Res
  | fs, cur, [] => (match fs with
    | [] => .ok cur []
    | _ :: _ => .err 21)
  | fs, cur, line :: rest =>
    if line = endW then (match fs with
      | [] => .err 21
      | f :: fs => mach fs (f.out ++ [⟨f.op, f.args, f.n, cur⟩]) rest) else
    match stepOf line with
    | none => .err 20
    | some (op, args, n) =>
      if op = 9 ∨ op = 10 then
        if 4 ≤ fs.length then .err 22 else mach (⟨op, args, n, cur⟩ :: fs) [] rest
      else mach fs (cur ++ [⟨op, args, n, []⟩]) rest
def fin : List Frame → Res → Res
  | [], r => r
  | _ :: _, .err e => .err e
  | f :: fs, .ok inn rest => mach fs (f.out ++ [⟨f.op, f.args, f.n, inn⟩]) rest
theorem fin_err (fs : List Frame) (e : Nat) : fin fs (.err e) = .err e := by cases fs <;> rfl
theorem mach_nil (fs : List Frame) (cur : List Stp) : mach fs cur [] = (match fs with
    | [] => .ok cur []
    | _ :: _ => .err 21) := by rw [mach.eq_def]
theorem mach_cons (fs : List Frame) (cur : List Stp) (line : B) (rest : List B) : mach fs cur (line :: rest) =
    if line = endW then (match fs with
      | [] => .err 21
      | f :: fs => mach fs (f.out ++ [⟨f.op, f.args, f.n, cur⟩]) rest) else
    match stepOf line with
    | none => .err 20
    | some (op, args, n) =>
      if op = 9 ∨ op = 10 then
        if 4 ≤ fs.length then .err 22 else mach (⟨op, args, n, cur⟩ :: fs) [] rest
      else mach fs (cur ++ [⟨op, args, n, []⟩]) rest := by rw [mach.eq_def]
theorem mach_fin : ∀ (k : Nat) (fs : List Frame) (cur : List Stp) (lines : List B), lines.length ≤ k → mach fs cur lines = fin fs (bk fs.length cur lines)
  | k, [], cur, [], _ => by rw [bk_nil, mach_nil]; rfl
  | k, f :: fs, cur, [], _ => by rw [bk_nil, mach_nil, if_pos (by simp)]; rfl
  | 0, fs, cur, line :: rest, h => absurd h (by simp)
  | k + 1, fs, cur, line :: rest, h => by
    simp only [List.length_cons] at h
    rw [bk_cons, mach_cons]
    by_cases he : line = endW
    · rw [if_pos he, if_pos he]
      cases fs with
      | nil => simp [fin]
      | cons f fs => simp [fin]
    · rw [if_neg he, if_neg he]
      cases e : stepOf line with
      | none => simp only [fin_err]
      | some x =>
        obtain ⟨op, args, n⟩ := x
        simp only
        by_cases hb : op = 9 ∨ op = 10
        · rw [if_pos hb, if_pos hb]
          by_cases hd : 4 ≤ fs.length
          · rw [if_pos hd, if_pos hd, fin_err]
          · rw [if_neg hd, if_neg hd, mach_fin k _ _ rest (by omega), List.length_cons]
            cases e2 : bk (fs.length + 1) [] rest with
            | err e => rw [fin_err]; simp only [fin_err]
            | ok inn rest' =>
              have hle := bk_le e2
              rw [fin, mach_fin k fs _ rest' (by omega)]
        · rw [if_neg hb, if_neg hb]
          exact mach_fin k fs _ rest (by omega)
theorem mach_bk (lines : List B) : mach [] [] lines = bk 0 [] lines := mach_fin lines.length [] [] lines (Nat.le_refl _)
end Go.Proofs.YtoofflnaebkigaaDoor.Lg
