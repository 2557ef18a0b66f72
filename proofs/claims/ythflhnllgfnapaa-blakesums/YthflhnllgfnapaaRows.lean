/-
  No cell of these rows narrows 'for every input' (looked for: loops, veiled, ifaces, maps, wideKeys, modest, calm, conditions, laid).
  DERIVED. THE GIVEN ROWS OF THIS SEAT. 4 by the template 'for every input the law returns true; each argument reads behind the call as it read before'; 0 by the template 'total and deterministic' (their statements: YthflhnllgfnapaaTotals.lean).
  GIVEN WITH THE SEED: the statements are not yours to turn. If you find one false, say at which input.
  Laid BY PROGRAM, IN A SANDBOX (cutbox-rows.mjs): the forced cells as the released guide's own fill.sh prints them over the translation 7dfc8607099387d1… (all of the seat's roots in one cut). By AI agents, Wed Nov 11 2026. No macro, syntax, notation, axiom, sorry.
-/
import Derived.Test.YthflhnllgfnapaaChecked
import GoSem.Claim
import GoSem.ClaimJoined
import GoSem.ClaimMapViews
import Derived.JoinedTies
import Derived.KernelRfl
namespace Go.Proofs.Ythflhnllgfnapaa
/- THE CELL 'sum', in the pinned program and in every row, IS THE sha256 OF THE DUMP (.gsa) THAT YthflhnllgfnapaaProg.lean LOADS. Nothing in Lean hashes anything: it is a label: what it is worth is what the hold of that sum in a sandbox is worth. -/
noncomputable def Try.pinned : Pinned := { name := "ythflhnllgfnapaa", sum := "7dfc8607099387d1d8e29a195a9f0c551ea53a8a14a125e58f09517a0ddc6a41", checked := Try.checked }
namespace Rows
def none {H : Type} : Left H := { results := [], args := [] }

/-- 'trestlelaw02.BlakeSums': WHATEVER THE INPUT: true; the input reads as it did. -/
def blakeSumsSpec : ChangeSpec := { name := "blakeSums", fn := fun _ => fun
  | [d] => { results := [.lit (.bool true)], args := [d] }
  | _ => none }
def blakeSumsRow : OpenClaim := { program := "ythflhnllgfnapaa", sum := "7dfc8607099387d1d8e29a195a9f0c551ea53a8a14a125e58f09517a0ddc6a41", func := "trestle/trestlelaw02.BlakeSums", spec := "blakeSums", inPlace := ["internal/abi.NoEscape", "internal/bytealg.MakeNoZero"], apart := false }
def BlakeSumsSaid : Prop := blakeSumsRow.holds Try.pinned (OpenSpec.ofChange blakeSumsSpec)

/-- ITS FALSE NEIGHBOUR: 'it returns false'. Refute it at one input. -/
def blakeSumsWrong : ChangeSpec := { name := "blakeSums", fn := fun _ => fun
  | [d] => { results := [.lit (.bool false)], args := [d] }
  | _ => none }
def BlakeSumsWrongFalsely : Prop := blakeSumsRow.holds Try.pinned (OpenSpec.ofChange blakeSumsWrong)

/-- 'trestlelaw02.BlakeWords': WHATEVER THE INPUT: true; the input reads as it did. -/
def blakeWordsSpec : ChangeSpec := { name := "blakeWords", fn := fun _ => fun
  | [d] => { results := [.lit (.bool true)], args := [d] }
  | _ => none }
def blakeWordsRow : OpenClaim := { program := "ythflhnllgfnapaa", sum := "7dfc8607099387d1d8e29a195a9f0c551ea53a8a14a125e58f09517a0ddc6a41", func := "trestle/trestlelaw02.BlakeWords", spec := "blakeWords", inPlace := ["internal/abi.NoEscape", "internal/bytealg.MakeNoZero"], apart := false }
def BlakeWordsSaid : Prop := blakeWordsRow.holds Try.pinned (OpenSpec.ofChange blakeWordsSpec)

/-- ITS FALSE NEIGHBOUR: 'it returns false'. Refute it at one input. -/
def blakeWordsWrong : ChangeSpec := { name := "blakeWords", fn := fun _ => fun
  | [d] => { results := [.lit (.bool false)], args := [d] }
  | _ => none }
def BlakeWordsWrongFalsely : Prop := blakeWordsRow.holds Try.pinned (OpenSpec.ofChange blakeWordsWrong)

/-- 'trestlelaw02.BlakeSizes': WHATEVER THE INPUT: true; the input reads as it did. -/
def blakeSizesSpec : ChangeSpec := { name := "blakeSizes", fn := fun _ => fun
  | [d1, d2] => { results := [.lit (.bool true)], args := [d1, d2] }
  | _ => none }
def blakeSizesRow : OpenClaim := { program := "ythflhnllgfnapaa", sum := "7dfc8607099387d1d8e29a195a9f0c551ea53a8a14a125e58f09517a0ddc6a41", func := "trestle/trestlelaw02.BlakeSizes", spec := "blakeSizes", inPlace := ["internal/abi.NoEscape", "internal/bytealg.MakeNoZero"], apart := false }
def BlakeSizesSaid : Prop := blakeSizesRow.holds Try.pinned (OpenSpec.ofChange blakeSizesSpec)

/-- ITS FALSE NEIGHBOUR: 'it returns false'. Refute it at one input. -/
def blakeSizesWrong : ChangeSpec := { name := "blakeSizes", fn := fun _ => fun
  | [d1, d2] => { results := [.lit (.bool false)], args := [d1, d2] }
  | _ => none }
def BlakeSizesWrongFalsely : Prop := blakeSizesRow.holds Try.pinned (OpenSpec.ofChange blakeSizesWrong)

/-- 'trestlelaw02.BlakeHalves': WHATEVER THE INPUT: true; the input reads as it did. -/
def blakeHalvesSpec : ChangeSpec := { name := "blakeHalves", fn := fun _ => fun
  | [d] => { results := [.lit (.bool true)], args := [d] }
  | _ => none }
def blakeHalvesRow : OpenClaim := { program := "ythflhnllgfnapaa", sum := "7dfc8607099387d1d8e29a195a9f0c551ea53a8a14a125e58f09517a0ddc6a41", func := "trestle/trestlelaw02.BlakeHalves", spec := "blakeHalves", inPlace := ["internal/abi.NoEscape", "internal/bytealg.MakeNoZero"], apart := false }
def BlakeHalvesSaid : Prop := blakeHalvesRow.holds Try.pinned (OpenSpec.ofChange blakeHalvesSpec)

/-- ITS FALSE NEIGHBOUR: 'it returns false'. Refute it at one input. -/
def blakeHalvesWrong : ChangeSpec := { name := "blakeHalves", fn := fun _ => fun
  | [d] => { results := [.lit (.bool false)], args := [d] }
  | _ => none }
def BlakeHalvesWrongFalsely : Prop := blakeHalvesRow.holds Try.pinned (OpenSpec.ofChange blakeHalvesWrong)

/- THE SECOND FORM. 'bulk': how many values and letters a reading holds, each counted each time it is reached (what is shared counts as often as it is met; a slice's spare places count too). A statement '..UptoSaid' is the law's where the arguments, and the package variables that the reading takes, are together of bulk at most 1048576: NARROWER than '..Said'. Prove '..Said' where nothing that the law and all that it calls make is longer than what came in: it says more and counts as full. Else prove '..UptoSaid'. A law counts once. -/
mutual
def uptoBulk {H : Type} : DataW H → Nat
  | .lit (.string bytes) => bytes.length + 1
  | .lit _ => 1
  | .nil => 1
  | .ptr d => uptoBulk d + 1
  | .slice elems spare => uptoBulkAll elems + uptoBulkAll spare + 1
  | .agg parts => uptoBulkAll parts + 1
  | .iface _ d => uptoBulk d + 1
  | .map entries => uptoBulkEntries entries + 1
  | .held _ => 1
def uptoBulkAll {H : Type} : List (DataW H) → Nat
  | [] => 0
  | d :: r => uptoBulk d + uptoBulkAll r
def uptoBulkEntries {H : Type} : List (Lit × DataW H) → Nat
  | [] => 0
  | x :: r => uptoBulkEntry x + uptoBulkEntries r
def uptoBulkEntry {H : Type} : Lit × DataW H → Nat
  | (.string bytes, d) => bytes.length + uptoBulk d + 1
  | (_, d) => uptoBulk d + 1
 end
def uptoSmall : (H : Type) → List (DataW H) → Bool := fun _ ds => decide (uptoBulkAll ds ≤ 1048576)
def OpenSpec.upto (s : _root_.Go.ChangeSpec) : _root_.Go.OpenSpec := { _root_.Go.OpenSpec.ofChange s with cond := some uptoSmall }

/-- 'trestlelaw02.BlakeSums', WHERE WHAT IT READS IS OF BULK AT MOST 1048576: true; the input reads as it did. -/
def blakeSumsUptoRow : OpenClaim := { program := "ythflhnllgfnapaa", sum := "7dfc8607099387d1d8e29a195a9f0c551ea53a8a14a125e58f09517a0ddc6a41", func := "trestle/trestlelaw02.BlakeSums", spec := "blakeSums", inPlace := ["internal/abi.NoEscape", "internal/bytealg.MakeNoZero"], apart := false, narrowed := true }
def BlakeSumsUptoSaid : Prop := blakeSumsUptoRow.holds Try.pinned (OpenSpec.upto blakeSumsSpec)

/-- 'trestlelaw02.BlakeWords', WHERE WHAT IT READS IS OF BULK AT MOST 1048576: true; the input reads as it did. -/
def blakeWordsUptoRow : OpenClaim := { program := "ythflhnllgfnapaa", sum := "7dfc8607099387d1d8e29a195a9f0c551ea53a8a14a125e58f09517a0ddc6a41", func := "trestle/trestlelaw02.BlakeWords", spec := "blakeWords", inPlace := ["internal/abi.NoEscape", "internal/bytealg.MakeNoZero"], apart := false, narrowed := true }
def BlakeWordsUptoSaid : Prop := blakeWordsUptoRow.holds Try.pinned (OpenSpec.upto blakeWordsSpec)

/-- 'trestlelaw02.BlakeSizes', WHERE WHAT IT READS IS OF BULK AT MOST 1048576: true; the input reads as it did. -/
def blakeSizesUptoRow : OpenClaim := { program := "ythflhnllgfnapaa", sum := "7dfc8607099387d1d8e29a195a9f0c551ea53a8a14a125e58f09517a0ddc6a41", func := "trestle/trestlelaw02.BlakeSizes", spec := "blakeSizes", inPlace := ["internal/abi.NoEscape", "internal/bytealg.MakeNoZero"], apart := false, narrowed := true }
def BlakeSizesUptoSaid : Prop := blakeSizesUptoRow.holds Try.pinned (OpenSpec.upto blakeSizesSpec)

/-- 'trestlelaw02.BlakeHalves', WHERE WHAT IT READS IS OF BULK AT MOST 1048576: true; the input reads as it did. -/
def blakeHalvesUptoRow : OpenClaim := { program := "ythflhnllgfnapaa", sum := "7dfc8607099387d1d8e29a195a9f0c551ea53a8a14a125e58f09517a0ddc6a41", func := "trestle/trestlelaw02.BlakeHalves", spec := "blakeHalves", inPlace := ["internal/abi.NoEscape", "internal/bytealg.MakeNoZero"], apart := false, narrowed := true }
def BlakeHalvesUptoSaid : Prop := blakeHalvesUptoRow.holds Try.pinned (OpenSpec.upto blakeHalvesSpec)

end Rows
end Go.Proofs.Ythflhnllgfnapaa
