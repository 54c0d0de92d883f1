/- Words for the cards. -/
import Derived.Test.YteklfeeamjgplaaGreatDoorEnv
import Derived.Test.YteklfeeamjgplaaGreatDoorOpen
import Derived.Test.YteklfeeamjgplaaGreatDoorCards
import Derived.Test.YteklfeeamjgplaaGreatDoorTie
import Derived.OpenShut
import Derived.Deep.DeepHandedRow
import Derived.Deep.DeepLaidRun
namespace Go.Proofs.YteklfeeamjgplaaGreatDoor
open Go.ChangeShapes Go.WideShapes Go.ChangeAt Go.RowKit
set_option linter.unusedVariables false
/-- the cells of plain data of numbers -/
def flatD : Nat → DataW Unit → List Value
  | f + 1, .lit (.int k n) => [.int k n]
  | f + 1, .agg ps => (ps.map (flatD f)).flatten
  | _, _ => []
def layCells (vs : List Value) : Obj → Obj
  | .cells _ t frozen => .cells vs.toArray t frozen
  | o => o
end Go.Proofs.YteklfeeamjgplaaGreatDoor
