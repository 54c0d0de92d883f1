/- Opening the arguments of a law: what a reading says of memory, in this seat's words. -/
import Derived.Test.YteklfeeamjgplaaDoorOwn
import Derived.ChangeOld
import Derived.Carry
import Derived.Lib.SmallJoins
namespace Go.Proofs.YteklfeeamjgplaaDoor
open Go.ChangeShapes Go.WideShapes Go.ChangeAt Go.RowKit
set_option linter.unusedVariables false

set_option maxRecDepth 1000000 in
theorem laidOut : laidOutB Tryd.prog = true := by kernel_rfl
theorem ownKnobNone : ownKnob Tryd.prog.godebug = none := by kernel_rfl

theorem cells_i64 : Tryd.prog.cellsOf 2 = 1 := by kernel_rfl

section
variable {H : Type} {enc : TypeId × Value → H} {w : World} {base : Nat} {spare : Nat → Bool} {held : Bool}
end
end Go.Proofs.YteklfeeamjgplaaDoor
