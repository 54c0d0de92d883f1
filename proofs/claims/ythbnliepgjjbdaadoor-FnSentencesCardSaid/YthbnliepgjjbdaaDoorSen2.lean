/- FnExactValidSentence. -/
import Derived.Test.YthbnliepgjjbdaaDoorSen
import Derived.Test.YthbnliepgjjbdaaDoorOpen
namespace Go.Proofs.YthbnliepgjjbdaaDoor
open Go.ChangeShapes Go.WideShapes Go.ChangeAt Go.RowKit
set_option linter.unusedVariables false

end Go.Proofs.YthbnliepgjjbdaaDoor
