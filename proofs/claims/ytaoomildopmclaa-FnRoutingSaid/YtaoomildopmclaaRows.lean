/-
  No cell of these rows narrows 'for every input' (looked for: loops, veiled, ifaces, maps, wideKeys, modest, calm, conditions, laid).
  DERIVED. THE GIVEN ROWS OF THIS SEAT. 9 by the template 'for every input the law returns true; each argument reads behind the call as it read before'; 0 by the template 'total and deterministic' (their statements: YtaoomildopmclaaTotals.lean).
  GIVEN WITH THE SEED: the statements are not yours to turn. If you find one false, say at which input.
  Laid BY PROGRAM, IN A SANDBOX (cutbox-rows.mjs): the forced cells as the released guide's own fill.sh prints them over the translation b1e9389b6b9389f9… (all of the seat's roots in one cut). By AI agents, Wed Nov 11 2026. No macro, syntax, notation, axiom, sorry.
-/
import Derived.Test.YtaoomildopmclaaChecked
import GoSem.Claim
import GoSem.ClaimJoined
import GoSem.ClaimMapViews
import Derived.JoinedTies
import Derived.KernelRfl
namespace Go.Proofs.Ytaoomildopmclaa
/- THE CELL 'sum', in the pinned program and in every row, IS THE sha256 OF THE DUMP (.gsa) THAT YtaoomildopmclaaProg.lean LOADS. Nothing in Lean hashes anything: it is a label: what it is worth is what the hold of that sum in a sandbox is worth. -/
noncomputable def Try.pinned : Pinned := { name := "ytaoomildopmclaa", sum := "b1e9389b6b9389f933df28947372745fb33ffdb5727c6fcad53cca39dac33c03", checked := Try.checked }
namespace Rows
def none {H : Type} : Left H := { results := [], args := [] }

/-- 'laws.FnRouting': WHATEVER THE INPUT: true; the input reads as it did. -/
def fnRoutingSpec : ChangeSpec := { name := "fnRouting", fn := fun _ => fun
  | [d1, d2] => { results := [.lit (.bool true)], args := [d1, d2] }
  | _ => none }
def fnRoutingRow : OpenClaim := { program := "ytaoomildopmclaa", sum := "b1e9389b6b9389f933df28947372745fb33ffdb5727c6fcad53cca39dac33c03", func := "loop.example/g01013/laws.FnRouting", spec := "fnRouting", unfollowed := true, recurses := true, apart := false }
def FnRoutingSaid : Prop := fnRoutingRow.holds Try.pinned (OpenSpec.ofChange fnRoutingSpec)

/-- ITS FALSE NEIGHBOUR: 'it returns false'. Refute it at one input. -/
def fnRoutingWrong : ChangeSpec := { name := "fnRouting", fn := fun _ => fun
  | [d1, d2] => { results := [.lit (.bool false)], args := [d1, d2] }
  | _ => none }
def FnRoutingWrongFalsely : Prop := fnRoutingRow.holds Try.pinned (OpenSpec.ofChange fnRoutingWrong)

/-- 'laws.FnExactTotalMass': WHATEVER THE INPUT: true; the input reads as it did. -/
def fnExactTotalMassSpec : ChangeSpec := { name := "fnExactTotalMass", fn := fun _ => fun
  | [d1, d2] => { results := [.lit (.bool true)], args := [d1, d2] }
  | _ => none }
def fnExactTotalMassRow : OpenClaim := { program := "ytaoomildopmclaa", sum := "b1e9389b6b9389f933df28947372745fb33ffdb5727c6fcad53cca39dac33c03", func := "loop.example/g01013/laws.FnExactTotalMass", spec := "fnExactTotalMass", unfollowed := true, recurses := true, apart := false }
def FnExactTotalMassSaid : Prop := fnExactTotalMassRow.holds Try.pinned (OpenSpec.ofChange fnExactTotalMassSpec)

/-- ITS FALSE NEIGHBOUR: 'it returns false'. Refute it at one input. -/
def fnExactTotalMassWrong : ChangeSpec := { name := "fnExactTotalMass", fn := fun _ => fun
  | [d1, d2] => { results := [.lit (.bool false)], args := [d1, d2] }
  | _ => none }
def FnExactTotalMassWrongFalsely : Prop := fnExactTotalMassRow.holds Try.pinned (OpenSpec.ofChange fnExactTotalMassWrong)

/-- 'laws.FnExactRaiseCell': WHATEVER THE INPUT: true; the input reads as it did. -/
def fnExactRaiseCellSpec : ChangeSpec := { name := "fnExactRaiseCell", fn := fun _ => fun
  | [d1, d2, d3] => { results := [.lit (.bool true)], args := [d1, d2, d3] }
  | _ => none }
def fnExactRaiseCellRow : OpenClaim := { program := "ytaoomildopmclaa", sum := "b1e9389b6b9389f933df28947372745fb33ffdb5727c6fcad53cca39dac33c03", func := "loop.example/g01013/laws.FnExactRaiseCell", spec := "fnExactRaiseCell", unfollowed := true, recurses := true, apart := false }
def FnExactRaiseCellSaid : Prop := fnExactRaiseCellRow.holds Try.pinned (OpenSpec.ofChange fnExactRaiseCellSpec)

/-- ITS FALSE NEIGHBOUR: 'it returns false'. Refute it at one input. -/
def fnExactRaiseCellWrong : ChangeSpec := { name := "fnExactRaiseCell", fn := fun _ => fun
  | [d1, d2, d3] => { results := [.lit (.bool false)], args := [d1, d2, d3] }
  | _ => none }
def FnExactRaiseCellWrongFalsely : Prop := fnExactRaiseCellRow.holds Try.pinned (OpenSpec.ofChange fnExactRaiseCellWrong)

/-- 'laws.FnExactCurvatureAt': WHATEVER THE INPUT: true; the input reads as it did. -/
def fnExactCurvatureAtSpec : ChangeSpec := { name := "fnExactCurvatureAt", fn := fun _ => fun
  | [d1, d2] => { results := [.lit (.bool true)], args := [d1, d2] }
  | _ => none }
def fnExactCurvatureAtRow : OpenClaim := { program := "ytaoomildopmclaa", sum := "b1e9389b6b9389f933df28947372745fb33ffdb5727c6fcad53cca39dac33c03", func := "loop.example/g01013/laws.FnExactCurvatureAt", spec := "fnExactCurvatureAt", unfollowed := true, recurses := true, apart := false }
def FnExactCurvatureAtSaid : Prop := fnExactCurvatureAtRow.holds Try.pinned (OpenSpec.ofChange fnExactCurvatureAtSpec)

/-- ITS FALSE NEIGHBOUR: 'it returns false'. Refute it at one input. -/
def fnExactCurvatureAtWrong : ChangeSpec := { name := "fnExactCurvatureAt", fn := fun _ => fun
  | [d1, d2] => { results := [.lit (.bool false)], args := [d1, d2] }
  | _ => none }
def FnExactCurvatureAtWrongFalsely : Prop := fnExactCurvatureAtRow.holds Try.pinned (OpenSpec.ofChange fnExactCurvatureAtWrong)

/-- 'laws.FnExactSlopeTo': WHATEVER THE INPUT: true; the input reads as it did. -/
def fnExactSlopeToSpec : ChangeSpec := { name := "fnExactSlopeTo", fn := fun _ => fun
  | [d1, d2, d3] => { results := [.lit (.bool true)], args := [d1, d2, d3] }
  | _ => none }
def fnExactSlopeToRow : OpenClaim := { program := "ytaoomildopmclaa", sum := "b1e9389b6b9389f933df28947372745fb33ffdb5727c6fcad53cca39dac33c03", func := "loop.example/g01013/laws.FnExactSlopeTo", spec := "fnExactSlopeTo", unfollowed := true, recurses := true, apart := false }
def FnExactSlopeToSaid : Prop := fnExactSlopeToRow.holds Try.pinned (OpenSpec.ofChange fnExactSlopeToSpec)

/-- ITS FALSE NEIGHBOUR: 'it returns false'. Refute it at one input. -/
def fnExactSlopeToWrong : ChangeSpec := { name := "fnExactSlopeTo", fn := fun _ => fun
  | [d1, d2, d3] => { results := [.lit (.bool false)], args := [d1, d2, d3] }
  | _ => none }
def FnExactSlopeToWrongFalsely : Prop := fnExactSlopeToRow.holds Try.pinned (OpenSpec.ofChange fnExactSlopeToWrong)

/-- 'laws.FnExactSteepestOf': WHATEVER THE INPUT: true; the input reads as it did. -/
def fnExactSteepestOfSpec : ChangeSpec := { name := "fnExactSteepestOf", fn := fun _ => fun
  | [d1, d2] => { results := [.lit (.bool true)], args := [d1, d2] }
  | _ => none }
def fnExactSteepestOfRow : OpenClaim := { program := "ytaoomildopmclaa", sum := "b1e9389b6b9389f933df28947372745fb33ffdb5727c6fcad53cca39dac33c03", func := "loop.example/g01013/laws.FnExactSteepestOf", spec := "fnExactSteepestOf", unfollowed := true, recurses := true, apart := false }
def FnExactSteepestOfSaid : Prop := fnExactSteepestOfRow.holds Try.pinned (OpenSpec.ofChange fnExactSteepestOfSpec)

/-- ITS FALSE NEIGHBOUR: 'it returns false'. Refute it at one input. -/
def fnExactSteepestOfWrong : ChangeSpec := { name := "fnExactSteepestOf", fn := fun _ => fun
  | [d1, d2] => { results := [.lit (.bool false)], args := [d1, d2] }
  | _ => none }
def FnExactSteepestOfWrongFalsely : Prop := fnExactSteepestOfRow.holds Try.pinned (OpenSpec.ofChange fnExactSteepestOfWrong)

/-- 'laws.FnExactAspectOf': WHATEVER THE INPUT: true; the input reads as it did. -/
def fnExactAspectOfSpec : ChangeSpec := { name := "fnExactAspectOf", fn := fun _ => fun
  | [d1, d2] => { results := [.lit (.bool true)], args := [d1, d2] }
  | _ => none }
def fnExactAspectOfRow : OpenClaim := { program := "ytaoomildopmclaa", sum := "b1e9389b6b9389f933df28947372745fb33ffdb5727c6fcad53cca39dac33c03", func := "loop.example/g01013/laws.FnExactAspectOf", spec := "fnExactAspectOf", unfollowed := true, recurses := true, apart := false }
def FnExactAspectOfSaid : Prop := fnExactAspectOfRow.holds Try.pinned (OpenSpec.ofChange fnExactAspectOfSpec)

/-- ITS FALSE NEIGHBOUR: 'it returns false'. Refute it at one input. -/
def fnExactAspectOfWrong : ChangeSpec := { name := "fnExactAspectOf", fn := fun _ => fun
  | [d1, d2] => { results := [.lit (.bool false)], args := [d1, d2] }
  | _ => none }
def FnExactAspectOfWrongFalsely : Prop := fnExactAspectOfRow.holds Try.pinned (OpenSpec.ofChange fnExactAspectOfWrong)

/-- 'laws.FnExactDescentOf': WHATEVER THE INPUT: true; the input reads as it did. -/
def fnExactDescentOfSpec : ChangeSpec := { name := "fnExactDescentOf", fn := fun _ => fun
  | [d1, d2] => { results := [.lit (.bool true)], args := [d1, d2] }
  | _ => none }
def fnExactDescentOfRow : OpenClaim := { program := "ytaoomildopmclaa", sum := "b1e9389b6b9389f933df28947372745fb33ffdb5727c6fcad53cca39dac33c03", func := "loop.example/g01013/laws.FnExactDescentOf", spec := "fnExactDescentOf", unfollowed := true, recurses := true, apart := false }
def FnExactDescentOfSaid : Prop := fnExactDescentOfRow.holds Try.pinned (OpenSpec.ofChange fnExactDescentOfSpec)

/-- ITS FALSE NEIGHBOUR: 'it returns false'. Refute it at one input. -/
def fnExactDescentOfWrong : ChangeSpec := { name := "fnExactDescentOf", fn := fun _ => fun
  | [d1, d2] => { results := [.lit (.bool false)], args := [d1, d2] }
  | _ => none }
def FnExactDescentOfWrongFalsely : Prop := fnExactDescentOfRow.holds Try.pinned (OpenSpec.ofChange fnExactDescentOfWrong)

/-- 'laws.FnExactRouteStep': WHATEVER THE INPUT: true; the input reads as it did. -/
def fnExactRouteStepSpec : ChangeSpec := { name := "fnExactRouteStep", fn := fun _ => fun
  | [d1, d2, d3] => { results := [.lit (.bool true)], args := [d1, d2, d3] }
  | _ => none }
def fnExactRouteStepRow : OpenClaim := { program := "ytaoomildopmclaa", sum := "b1e9389b6b9389f933df28947372745fb33ffdb5727c6fcad53cca39dac33c03", func := "loop.example/g01013/laws.FnExactRouteStep", spec := "fnExactRouteStep", unfollowed := true, recurses := true, apart := false }
def FnExactRouteStepSaid : Prop := fnExactRouteStepRow.holds Try.pinned (OpenSpec.ofChange fnExactRouteStepSpec)

/-- ITS FALSE NEIGHBOUR: 'it returns false'. Refute it at one input. -/
def fnExactRouteStepWrong : ChangeSpec := { name := "fnExactRouteStep", fn := fun _ => fun
  | [d1, d2, d3] => { results := [.lit (.bool false)], args := [d1, d2, d3] }
  | _ => none }
def FnExactRouteStepWrongFalsely : Prop := fnExactRouteStepRow.holds Try.pinned (OpenSpec.ofChange fnExactRouteStepWrong)

/- THE SECOND FORM. 'bulk': how many values and letters a reading holds, each counted each time it is reached (what is shared counts as often as it is met; a slice's spare places count too). A statement '..UptoSaid' is the law's where the arguments, and the package variables that the reading takes, are together of bulk at most 1048576: NARROWER than '..Said'. Prove '..Said' where nothing that the law and all that it calls make is longer than what came in: it says more and counts as full. Else prove '..UptoSaid'. A law counts once. -/
mutual
def uptoBulk {H : Type} : DataW H → Nat
  | .lit (.string bytes) => bytes.length + 1
  | .lit _ => 1
  | .nil => 1
  | .ptr d => uptoBulk d + 1
  | .slice elems spare => uptoBulkAll elems + uptoBulkAll spare + 1
  | .agg parts => uptoBulkAll parts + 1
  | .iface _ d => uptoBulk d + 1
  | .map entries => uptoBulkEntries entries + 1
  | .held _ => 1
def uptoBulkAll {H : Type} : List (DataW H) → Nat
  | [] => 0
  | d :: r => uptoBulk d + uptoBulkAll r
def uptoBulkEntries {H : Type} : List (Lit × DataW H) → Nat
  | [] => 0
  | x :: r => uptoBulkEntry x + uptoBulkEntries r
def uptoBulkEntry {H : Type} : Lit × DataW H → Nat
  | (.string bytes, d) => bytes.length + uptoBulk d + 1
  | (_, d) => uptoBulk d + 1
 end
def uptoSmall : (H : Type) → List (DataW H) → Bool := fun _ ds => decide (uptoBulkAll ds ≤ 1048576)
def OpenSpec.upto (s : _root_.Go.ChangeSpec) : _root_.Go.OpenSpec := { _root_.Go.OpenSpec.ofChange s with cond := some uptoSmall }

/-- 'laws.FnRouting', WHERE WHAT IT READS IS OF BULK AT MOST 1048576: true; the input reads as it did. -/
def fnRoutingUptoRow : OpenClaim := { program := "ytaoomildopmclaa", sum := "b1e9389b6b9389f933df28947372745fb33ffdb5727c6fcad53cca39dac33c03", func := "loop.example/g01013/laws.FnRouting", spec := "fnRouting", unfollowed := true, recurses := true, apart := false, narrowed := true }
def FnRoutingUptoSaid : Prop := fnRoutingUptoRow.holds Try.pinned (OpenSpec.upto fnRoutingSpec)

/-- 'laws.FnExactTotalMass', WHERE WHAT IT READS IS OF BULK AT MOST 1048576: true; the input reads as it did. -/
def fnExactTotalMassUptoRow : OpenClaim := { program := "ytaoomildopmclaa", sum := "b1e9389b6b9389f933df28947372745fb33ffdb5727c6fcad53cca39dac33c03", func := "loop.example/g01013/laws.FnExactTotalMass", spec := "fnExactTotalMass", unfollowed := true, recurses := true, apart := false, narrowed := true }
def FnExactTotalMassUptoSaid : Prop := fnExactTotalMassUptoRow.holds Try.pinned (OpenSpec.upto fnExactTotalMassSpec)

/-- 'laws.FnExactRaiseCell', WHERE WHAT IT READS IS OF BULK AT MOST 1048576: true; the input reads as it did. -/
def fnExactRaiseCellUptoRow : OpenClaim := { program := "ytaoomildopmclaa", sum := "b1e9389b6b9389f933df28947372745fb33ffdb5727c6fcad53cca39dac33c03", func := "loop.example/g01013/laws.FnExactRaiseCell", spec := "fnExactRaiseCell", unfollowed := true, recurses := true, apart := false, narrowed := true }
def FnExactRaiseCellUptoSaid : Prop := fnExactRaiseCellUptoRow.holds Try.pinned (OpenSpec.upto fnExactRaiseCellSpec)

/-- 'laws.FnExactCurvatureAt', WHERE WHAT IT READS IS OF BULK AT MOST 1048576: true; the input reads as it did. -/
def fnExactCurvatureAtUptoRow : OpenClaim := { program := "ytaoomildopmclaa", sum := "b1e9389b6b9389f933df28947372745fb33ffdb5727c6fcad53cca39dac33c03", func := "loop.example/g01013/laws.FnExactCurvatureAt", spec := "fnExactCurvatureAt", unfollowed := true, recurses := true, apart := false, narrowed := true }
def FnExactCurvatureAtUptoSaid : Prop := fnExactCurvatureAtUptoRow.holds Try.pinned (OpenSpec.upto fnExactCurvatureAtSpec)

/-- 'laws.FnExactSlopeTo', WHERE WHAT IT READS IS OF BULK AT MOST 1048576: true; the input reads as it did. -/
def fnExactSlopeToUptoRow : OpenClaim := { program := "ytaoomildopmclaa", sum := "b1e9389b6b9389f933df28947372745fb33ffdb5727c6fcad53cca39dac33c03", func := "loop.example/g01013/laws.FnExactSlopeTo", spec := "fnExactSlopeTo", unfollowed := true, recurses := true, apart := false, narrowed := true }
def FnExactSlopeToUptoSaid : Prop := fnExactSlopeToUptoRow.holds Try.pinned (OpenSpec.upto fnExactSlopeToSpec)

/-- 'laws.FnExactSteepestOf', WHERE WHAT IT READS IS OF BULK AT MOST 1048576: true; the input reads as it did. -/
def fnExactSteepestOfUptoRow : OpenClaim := { program := "ytaoomildopmclaa", sum := "b1e9389b6b9389f933df28947372745fb33ffdb5727c6fcad53cca39dac33c03", func := "loop.example/g01013/laws.FnExactSteepestOf", spec := "fnExactSteepestOf", unfollowed := true, recurses := true, apart := false, narrowed := true }
def FnExactSteepestOfUptoSaid : Prop := fnExactSteepestOfUptoRow.holds Try.pinned (OpenSpec.upto fnExactSteepestOfSpec)

/-- 'laws.FnExactAspectOf', WHERE WHAT IT READS IS OF BULK AT MOST 1048576: true; the input reads as it did. -/
def fnExactAspectOfUptoRow : OpenClaim := { program := "ytaoomildopmclaa", sum := "b1e9389b6b9389f933df28947372745fb33ffdb5727c6fcad53cca39dac33c03", func := "loop.example/g01013/laws.FnExactAspectOf", spec := "fnExactAspectOf", unfollowed := true, recurses := true, apart := false, narrowed := true }
def FnExactAspectOfUptoSaid : Prop := fnExactAspectOfUptoRow.holds Try.pinned (OpenSpec.upto fnExactAspectOfSpec)

/-- 'laws.FnExactDescentOf', WHERE WHAT IT READS IS OF BULK AT MOST 1048576: true; the input reads as it did. -/
def fnExactDescentOfUptoRow : OpenClaim := { program := "ytaoomildopmclaa", sum := "b1e9389b6b9389f933df28947372745fb33ffdb5727c6fcad53cca39dac33c03", func := "loop.example/g01013/laws.FnExactDescentOf", spec := "fnExactDescentOf", unfollowed := true, recurses := true, apart := false, narrowed := true }
def FnExactDescentOfUptoSaid : Prop := fnExactDescentOfUptoRow.holds Try.pinned (OpenSpec.upto fnExactDescentOfSpec)

/-- 'laws.FnExactRouteStep', WHERE WHAT IT READS IS OF BULK AT MOST 1048576: true; the input reads as it did. -/
def fnExactRouteStepUptoRow : OpenClaim := { program := "ytaoomildopmclaa", sum := "b1e9389b6b9389f933df28947372745fb33ffdb5727c6fcad53cca39dac33c03", func := "loop.example/g01013/laws.FnExactRouteStep", spec := "fnExactRouteStep", unfollowed := true, recurses := true, apart := false, narrowed := true }
def FnExactRouteStepUptoSaid : Prop := fnExactRouteStepUptoRow.holds Try.pinned (OpenSpec.upto fnExactRouteStepSpec)

end Rows
end Go.Proofs.Ytaoomildopmclaa
