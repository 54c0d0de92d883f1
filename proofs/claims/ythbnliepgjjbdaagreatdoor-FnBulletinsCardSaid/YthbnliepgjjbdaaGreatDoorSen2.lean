/- FnExactValidSentence. -/
import Derived.Test.YthbnliepgjjbdaaGreatDoorSen
import Derived.Test.YthbnliepgjjbdaaGreatDoorOpen
namespace Go.Proofs.YthbnliepgjjbdaaGreatDoor
open Go.ChangeShapes Go.WideShapes Go.ChangeAt Go.RowKit
set_option linter.unusedVariables false

end Go.Proofs.YthbnliepgjjbdaaGreatDoor
