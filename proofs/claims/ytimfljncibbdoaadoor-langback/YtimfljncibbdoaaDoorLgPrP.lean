/- How the command of steps is made up, step by step. No program in sight. -/
import Derived.Test.YtimfljncibbdoaaDoorLgEq
namespace Go.Proofs.YtimfljncibbdoaaDoor.Lg
set_option linter.unusedVariables false
/-- the words behind a step's first -/
def argsW (args : List B) : B := args.flatMap fun a => 32 :: a
theorem join_args (w : B) : ∀ args : List B, joinB 32 (w :: args) = w ++ argsW args
  | [] => by simp [joinB, argsW]
  | a :: r => by
    rw [joinB, join_args a r]
    simp [argsW]
theorem argsW_take {args : List B} {j : Nat} (h : j < args.length) : argsW (args.take (j + 1)) = argsW (args.take j) ++ (32 :: args[j]) := by
  rw [List.take_add_one, List.getElem?_eq_getElem h]
  simp only [argsW, List.flatMap_append, Option.toList, List.flatMap_cons, List.flatMap_nil, List.append_nil]
theorem argsW_le (args : List B) (j : Nat) : (argsW (args.take j)).length ≤ (argsW args).length := by
  have h := congrArg (fun l => (argsW l).length) (List.take_append_drop j args)
  simp only [argsW, List.flatMap_append, List.length_append] at *
  omega
theorem len_args : ∀ args : List B, args.length ≤ (argsW args).length
  | [] => by simp
  | a :: r => by
    have := len_args r
    simp only [argsW, List.flatMap_cons, List.length_append, List.length_cons] at *
    omega
/-- what a step is printed as -/
def printS (x : Stp) : B := wordOf x.op ++ argsW x.args ++ (if x.op = 9 then 32 :: Lib.itoa x.n else []) ++ [10] ++ (if x.op = 9 ∨ x.op = 10 then print x.block ++ [101, 110, 100, 10] else [])
theorem print_nil : print [] = [] := by simp [print, linesOf]
theorem print_cons (x : Stp) (r : List Stp) : print (x :: r) = printS x ++ print r := by
  obtain ⟨op, args, n, b⟩ := x
  rw [print, linesOf, printS, headW, join_args]
  by_cases h : op = 9 ∨ op = 10
  · simp [h, print, endW, List.flatMap_append, Stp.op, Stp.args, Stp.n, Stp.block]
    rfl
  · simp [h, print, Stp.op, Stp.args, Stp.n]
    rfl
theorem print_append : ∀ a b : List Stp, print (a ++ b) = print a ++ print b
  | [], b => by rw [print_nil]; rfl
  | x :: r, b => by rw [List.cons_append, print_cons, print_cons, print_append r b, List.append_assoc]
theorem print_take {l : List Stp} {k : Nat} (h : k < l.length) : print (l.take (k + 1)) = print (l.take k) ++ printS l[k] := by
  rw [List.take_add_one, List.getElem?_eq_getElem h, print_append]
  simp [print_cons, print_nil]
theorem print_take_le (l : List Stp) (k : Nat) : (print (l.take k)).length ≤ (print l).length := by
  have h := congrArg (fun l => (print l).length) (List.take_append_drop k l)
  simp only [print_append, List.length_append] at h
  omega
theorem print_at_le {l : List Stp} {k : Nat} (h : k < l.length) : (print (l.take k)).length + (printS l[k]).length ≤ (print l).length := by
  have := print_take_le l (k + 1)
  rw [print_take h, List.length_append] at this
  exact this
/-- every number is one of Go's -/
def numL : List Stp → Prop
  | [] => True
  | ⟨_, _, n, b⟩ :: r => (-9223372036854775808 ≤ n ∧ n ≤ 9223372036854775807) ∧ numL b ∧ numL r
theorem numL_at : ∀ {l : List Stp} {k : Nat} (h : k < l.length), numL l → (-9223372036854775808 ≤ (l[k]).n ∧ (l[k]).n ≤ 9223372036854775807) ∧ numL (l[k]).block
  | ⟨_, _, n, b⟩ :: r, 0, h, hl => by rw [numL] at hl; exact ⟨hl.1, hl.2.1⟩
  | ⟨_, _, n, b⟩ :: r, k + 1, h, hl => by
    rw [numL] at hl
    exact numL_at (l := r) (k := k) (by simpa using h) hl.2.2
theorem words_len : ∀ op, (wordOf op).length ≤ 5 := by
  intro op
  unfold wordOf
  split
  · next h =>
    obtain ⟨h1, h2⟩ := h
    obtain ⟨j, rfl⟩ : ∃ j : Nat, op = j := ⟨op.toNat, by omega⟩
    have hj : j ≤ 10 := by omega
    have : ∀ j, j ≤ 10 → (wordsL.getD j [63]).length ≤ 5 := by decide
    exact this j hj
  · decide
theorem len_print : ∀ l : List Stp, l.length ≤ (print l).length
  | [] => by simp
  | x :: r => by
    have := len_print r
    rw [print_cons, List.length_append]
    have : 1 ≤ (printS x).length := by simp only [printS, List.length_append, List.length_singleton]; omega
    simp only [List.length_cons]; omega
theorem printS_len (x : Stp) : (printS x).length = (wordOf x.op).length + (argsW x.args).length + (if x.op = 9 then 1 + (Lib.itoa x.n).length else 0) + 1 + (if x.op = 9 ∨ x.op = 10 then (print x.block).length + 4 else 0) := by
  unfold printS
  by_cases h : x.op = 9 <;> by_cases h2 : x.op = 10 <;> simp [h, h2] <;> omega
end Go.Proofs.YtimfljncibbdoaaDoor.Lg
