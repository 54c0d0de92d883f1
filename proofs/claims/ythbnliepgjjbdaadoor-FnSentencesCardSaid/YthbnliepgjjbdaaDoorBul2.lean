/- FnExactValidBulletin. -/
import Derived.Test.YthbnliepgjjbdaaDoorBul
import Derived.Test.YthbnliepgjjbdaaDoorOpenS
namespace Go.Proofs.YthbnliepgjjbdaaDoor
open Go.ChangeShapes Go.WideShapes Go.ChangeAt Go.RowKit
set_option linter.unusedVariables false


end Go.Proofs.YthbnliepgjjbdaaDoor
