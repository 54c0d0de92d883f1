/- SameRegions by both. -/
import Derived.Test.YteklfeeamjgplaaDoorRgE
namespace Go.Proofs.YteklfeeamjgplaaDoor
open Go.ChangeShapes Go.WideShapes Go.ChangeAt Go.RowKit
set_option linter.unusedVariables false

/-- the region x lies at the address p -/
def RgP (w : World) (p : Addr) (x : Rg) : Prop := w.cell? p = some (.string x.id) ∧ w.cell? ⟨p.block, p.off + 1, none⟩ = some (.int .i64 x.lv) ∧ w.cell? ⟨p.block, p.off + 2, none⟩ = some (.slice x.A x.n x.c)
end Go.Proofs.YteklfeeamjgplaaDoor
