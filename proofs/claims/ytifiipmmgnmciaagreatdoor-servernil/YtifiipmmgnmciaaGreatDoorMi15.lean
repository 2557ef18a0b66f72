/- Joined by mkmerged.py: RefMix, RefPress, RefSum. -/
import Derived.Test.YtifiipmmgnmciaaGreatDoorProg
import Derived.Test.YtifiipmmgnmciaaGreatDoorMiKt
import Derived.Test.YtifiipmmgnmciaaGreatDoorMiKm
import Derived.Test.YtifiipmmgnmciaaGreatDoorMi13
import Derived.Laws.BitsLemmas
import Derived.IntWalk
import Derived.Lib.Strings
/- RefMix, what a claim needs of it (prune.py). -/
namespace Go.Proofs.YtifiipmmgnmciaaGreatDoor
open Go.RowKit Blk
set_option linter.unusedVariables false
set_option maxRecDepth 100000
def rowI (l : List Nat) (T : List Value) : Array Value := (l.map (fun n : Nat => Value.int .i64 n) ++ T).toArray
structure MS (g : Nat) (V : List Nat) (T : List Value) (a b c d va vb vc vd : Nat) (w w' : World) : Prop where
  m : ∃ U : List Nat, w'.heap[g]? = some (.cells (rowI U T) 3 (0, 0)) ∧ U.length = 16 ∧ (∀ i, i ≠ a → i ≠ b → i ≠ c → i ≠ d → U.getD i 0 = V.getD i 0) ∧ U.getD a 0 = va ∧ U.getD b 0 = vb ∧ U.getD c 0 = vc ∧ U.getD d 0 = vd
  grown : w.grownBy w' (some g)
namespace MS
variable {g : Nat} {V : List Nat} {T : List Value} {a b c d va vb vc vd : Nat} {w w' : World}
end MS
end Go.Proofs.YtifiipmmgnmciaaGreatDoor
namespace Go.Proofs.YtifiipmmgnmciaaGreatDoor
open Go.RowKit Blk
set_option linter.unusedVariables false
set_option maxRecDepth 100000
end Go.Proofs.YtifiipmmgnmciaaGreatDoor
/- RefPress, what a claim needs of it (prune.py). -/
namespace Go.Proofs.YtifiipmmgnmciaaGreatDoor
open Go.RowKit Blk
set_option linter.unusedVariables false
set_option maxRecDepth 100000
structure RS (w : World) (M : List Nat) (Tm : List Value) (gm : Nat) (V : List Nat) (Tv : List Value) (gv : Nat) (H : List Nat) (Th : List Value) (gh : Nat) (w' : World) : Prop where
  m : w'.heap[gm]? = some (.cells (rowI M Tm) 3 (0, 0))
  v : w'.heap[gv]? = some (.cells (rowI V Tv) 3 (0, 0))
  h : w'.heap[gh]? = some (.cells (rowI H Th) 3 (0, 0))
  lh : gh < w.heap.size
  lm : w.heap.size ≤ gm
  lv : gm < gv
  grown : w.grownBy w' (some gh)
namespace RS
variable {w w' w'' : World} {M : List Nat} {Tm : List Value} {gm : Nat} {V : List Nat} {Tv : List Value} {gv : Nat} {H : List Nat} {Th : List Value} {gh : Nat}
end RS
end Go.Proofs.YtifiipmmgnmciaaGreatDoor
/- RefSum, what a claim needs of it (prune.py). -/
namespace Go.Proofs.YtifiipmmgnmciaaGreatDoor
open Go.RowKit Blk
set_option linter.unusedVariables false
set_option maxRecDepth 100000
structure QS (w : World) (gh : Nat) (H : List Nat) (w' : World) : Prop where
  m : w'.heap[gh]? = some (.cells (rowI H []) 3 (0, 0))
  lb : w.heap.size ≤ gh
  below : Below w.heap.size w w'
namespace QS
variable {w w' w'' : World} {gh : Nat} {H : List Nat}
end QS
end Go.Proofs.YtifiipmmgnmciaaGreatDoor
