/- Opening the arguments of a law: what a reading says of memory, in this seat's words. -/
import Derived.Test.YthbnliepgjjbdaaDoorOwn
import Derived.ChangeOld
import Derived.Carry
import Derived.Lib.SmallJoins
namespace Go.Proofs.YthbnliepgjjbdaaDoor
open Go.ChangeShapes Go.WideShapes Go.ChangeAt Go.RowKit
set_option linter.unusedVariables false

set_option maxRecDepth 1000000 in
theorem laidOut : laidOutB Tryd.prog = true := by kernel_rfl
theorem ownKnobNone : ownKnob Tryd.prog.godebug = none := by kernel_rfl

theorem cells_i64 : Tryd.prog.cellsOf 2 = 1 := by kernel_rfl

section
variable {H : Type} {enc : TypeId × Value → H} {w : World} {base : Nat} {spare : Nat → Bool} {held : Bool}
theorem cells_senL : Tryd.prog.cellsOf 23 = 3 := by kernel_rfl
def wit_sen : Value := .agg #[.int .i64 0, .int .i64 0, .int .i64 0]
set_option maxRecDepth 1000000 in
theorem open_sen {v : Value} {d : DataW H} {p : List MemPlace} {r : Reach} {b0 : Nat} (hv : Value.okWide Tryd.prog w r b0 23 v) (h : DataW.Trod enc Tryd.prog w base spare held 23 v d p) :
    ∃ x : Int × Int × Int, v = .agg #[.int .i64 x.1, .int .i64 x.2.1, .int .i64 x.2.2] ∧ (Lit.int .i64 x.1).wf = true ∧ (Lit.int .i64 x.2.1).wf = true ∧ (Lit.int .i64 x.2.2).wf = true := by
  obtain ⟨c0, c1, c2, y0, y1, y2, m, rfl, -, -, h0, h1, h2⟩ := Go.Joins.open_agg3 Tryd.underlying23 (by kernel_rfl) cells_senL hv h
  obtain ⟨a0, e0, -, w0⟩ := DataW.trod_int Tryd.underlying2 h0
  obtain ⟨a1, e1, -, w1⟩ := DataW.trod_int Tryd.underlying2 h1
  obtain ⟨a2, e2, -, w2⟩ := DataW.trod_int Tryd.underlying2 h2
  simp at e0 e1 e2
  subst e0 e1 e2
  exact ⟨(a0, a1, a2), rfl, w0, w1, w2⟩
end
end Go.Proofs.YthbnliepgjjbdaaDoor
