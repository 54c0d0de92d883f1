/- Lists of sentences: marking and holding. -/
import Derived.Test.YthbnliepgjjbdaaGreatDoorSenS
namespace Go.Proofs.YthbnliepgjjbdaaGreatDoor
open Go.ChangeShapes Go.WideShapes Go.ChangeAt Go.RowKit
set_option linter.unusedVariables false

end Go.Proofs.YthbnliepgjjbdaaGreatDoor
