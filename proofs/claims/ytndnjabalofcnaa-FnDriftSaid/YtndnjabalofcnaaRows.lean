/-
  No cell of these rows narrows 'for every input' (looked for: loops, veiled, ifaces, maps, wideKeys, modest, calm, conditions, laid).
  DERIVED. THE GIVEN ROWS OF THIS SEAT. 7 by the template 'for every input the law returns true; each argument reads behind the call as it read before'; 0 by the template 'total and deterministic' (their statements: YtndnjabalofcnaaTotals.lean).
  GIVEN WITH THE SEED: the statements are not yours to turn. If you find one false, say at which input.
  Laid BY PROGRAM, IN A SANDBOX (cutbox-rows.mjs): the forced cells as the released guide's own fill.sh prints them over the translation 8cf85b33efd85807… (all of the seat's roots in one cut). By AI agents, Wed Nov 11 2026. No macro, syntax, notation, axiom, sorry.
-/
import Derived.Test.YtndnjabalofcnaaChecked
import GoSem.Claim
import GoSem.ClaimJoined
import GoSem.ClaimMapViews
import Derived.JoinedTies
import Derived.KernelRfl
namespace Go.Proofs.Ytndnjabalofcnaa
/- THE CELL 'sum', in the pinned program and in every row, IS THE sha256 OF THE DUMP (.gsa) THAT YtndnjabalofcnaaProg.lean LOADS. Nothing in Lean hashes anything: it is a label: what it is worth is what the hold of that sum in a sandbox is worth. -/
noncomputable def Try.pinned : Pinned := { name := "ytndnjabalofcnaa", sum := "8cf85b33efd85807aa754a0fbac658e598ec8fa5f0a0ccabcb5416e19a10ac97", checked := Try.checked }
namespace Rows
def none {H : Type} : Left H := { results := [], args := [] }

/-- 'laws.FnExactDriftStep': WHATEVER THE INPUT: true; the input reads as it did. -/
def fnExactDriftStepSpec : ChangeSpec := { name := "fnExactDriftStep", fn := fun _ => fun
  | [d1, d2, d3] => { results := [.lit (.bool true)], args := [d1, d2, d3] }
  | _ => none }
def fnExactDriftStepRow : OpenClaim := { program := "ytndnjabalofcnaa", sum := "8cf85b33efd85807aa754a0fbac658e598ec8fa5f0a0ccabcb5416e19a10ac97", func := "loop.example/g01013/laws.FnExactDriftStep", spec := "fnExactDriftStep", unfollowed := true, recurses := true, apart := false }
def FnExactDriftStepSaid : Prop := fnExactDriftStepRow.holds Try.pinned (OpenSpec.ofChange fnExactDriftStepSpec)

/-- ITS FALSE NEIGHBOUR: 'it returns false'. Refute it at one input. -/
def fnExactDriftStepWrong : ChangeSpec := { name := "fnExactDriftStep", fn := fun _ => fun
  | [d1, d2, d3] => { results := [.lit (.bool false)], args := [d1, d2, d3] }
  | _ => none }
def FnExactDriftStepWrongFalsely : Prop := fnExactDriftStepRow.holds Try.pinned (OpenSpec.ofChange fnExactDriftStepWrong)

/-- 'laws.FnExactWorstWind': WHATEVER THE INPUT: true; the input reads as it did. -/
def fnExactWorstWindSpec : ChangeSpec := { name := "fnExactWorstWind", fn := fun _ => fun
  | [d1, d2, d3] => { results := [.lit (.bool true)], args := [d1, d2, d3] }
  | _ => none }
def fnExactWorstWindRow : OpenClaim := { program := "ytndnjabalofcnaa", sum := "8cf85b33efd85807aa754a0fbac658e598ec8fa5f0a0ccabcb5416e19a10ac97", func := "loop.example/g01013/laws.FnExactWorstWind", spec := "fnExactWorstWind", unfollowed := true, recurses := true, apart := false }
def FnExactWorstWindSaid : Prop := fnExactWorstWindRow.holds Try.pinned (OpenSpec.ofChange fnExactWorstWindSpec)

/-- ITS FALSE NEIGHBOUR: 'it returns false'. Refute it at one input. -/
def fnExactWorstWindWrong : ChangeSpec := { name := "fnExactWorstWind", fn := fun _ => fun
  | [d1, d2, d3] => { results := [.lit (.bool false)], args := [d1, d2, d3] }
  | _ => none }
def FnExactWorstWindWrongFalsely : Prop := fnExactWorstWindRow.holds Try.pinned (OpenSpec.ofChange fnExactWorstWindWrong)

/-- 'laws.FnExactSettledField': WHATEVER THE INPUT: true; the input reads as it did. -/
def fnExactSettledFieldSpec : ChangeSpec := { name := "fnExactSettledField", fn := fun _ => fun
  | [d1, d2, d3] => { results := [.lit (.bool true)], args := [d1, d2, d3] }
  | _ => none }
def fnExactSettledFieldRow : OpenClaim := { program := "ytndnjabalofcnaa", sum := "8cf85b33efd85807aa754a0fbac658e598ec8fa5f0a0ccabcb5416e19a10ac97", func := "loop.example/g01013/laws.FnExactSettledField", spec := "fnExactSettledField", unfollowed := true, recurses := true, apart := false }
def FnExactSettledFieldSaid : Prop := fnExactSettledFieldRow.holds Try.pinned (OpenSpec.ofChange fnExactSettledFieldSpec)

/-- ITS FALSE NEIGHBOUR: 'it returns false'. Refute it at one input. -/
def fnExactSettledFieldWrong : ChangeSpec := { name := "fnExactSettledField", fn := fun _ => fun
  | [d1, d2, d3] => { results := [.lit (.bool false)], args := [d1, d2, d3] }
  | _ => none }
def FnExactSettledFieldWrongFalsely : Prop := fnExactSettledFieldRow.holds Try.pinned (OpenSpec.ofChange fnExactSettledFieldWrong)

/-- 'laws.FnExactDriftRun': WHATEVER THE INPUT: true; the input reads as it did. -/
def fnExactDriftRunSpec : ChangeSpec := { name := "fnExactDriftRun", fn := fun _ => fun
  | [d1, d2, d3] => { results := [.lit (.bool true)], args := [d1, d2, d3] }
  | _ => none }
def fnExactDriftRunRow : OpenClaim := { program := "ytndnjabalofcnaa", sum := "8cf85b33efd85807aa754a0fbac658e598ec8fa5f0a0ccabcb5416e19a10ac97", func := "loop.example/g01013/laws.FnExactDriftRun", spec := "fnExactDriftRun", unfollowed := true, recurses := true, apart := false }
def FnExactDriftRunSaid : Prop := fnExactDriftRunRow.holds Try.pinned (OpenSpec.ofChange fnExactDriftRunSpec)

/-- ITS FALSE NEIGHBOUR: 'it returns false'. Refute it at one input. -/
def fnExactDriftRunWrong : ChangeSpec := { name := "fnExactDriftRun", fn := fun _ => fun
  | [d1, d2, d3] => { results := [.lit (.bool false)], args := [d1, d2, d3] }
  | _ => none }
def FnExactDriftRunWrongFalsely : Prop := fnExactDriftRunRow.holds Try.pinned (OpenSpec.ofChange fnExactDriftRunWrong)

/-- 'laws.FnExactDriftGain': WHATEVER THE INPUT: true; the input reads as it did. -/
def fnExactDriftGainSpec : ChangeSpec := { name := "fnExactDriftGain", fn := fun _ => fun
  | [d1, d2, d3] => { results := [.lit (.bool true)], args := [d1, d2, d3] }
  | _ => none }
def fnExactDriftGainRow : OpenClaim := { program := "ytndnjabalofcnaa", sum := "8cf85b33efd85807aa754a0fbac658e598ec8fa5f0a0ccabcb5416e19a10ac97", func := "loop.example/g01013/laws.FnExactDriftGain", spec := "fnExactDriftGain", unfollowed := true, recurses := true, apart := false }
def FnExactDriftGainSaid : Prop := fnExactDriftGainRow.holds Try.pinned (OpenSpec.ofChange fnExactDriftGainSpec)

/-- ITS FALSE NEIGHBOUR: 'it returns false'. Refute it at one input. -/
def fnExactDriftGainWrong : ChangeSpec := { name := "fnExactDriftGain", fn := fun _ => fun
  | [d1, d2, d3] => { results := [.lit (.bool false)], args := [d1, d2, d3] }
  | _ => none }
def FnExactDriftGainWrongFalsely : Prop := fnExactDriftGainRow.holds Try.pinned (OpenSpec.ofChange fnExactDriftGainWrong)

/-- 'laws.FnExactLoadedCells': WHATEVER THE INPUT: true; the input reads as it did. -/
def fnExactLoadedCellsSpec : ChangeSpec := { name := "fnExactLoadedCells", fn := fun _ => fun
  | [d1, d2, d3, d4] => { results := [.lit (.bool true)], args := [d1, d2, d3, d4] }
  | _ => none }
def fnExactLoadedCellsRow : OpenClaim := { program := "ytndnjabalofcnaa", sum := "8cf85b33efd85807aa754a0fbac658e598ec8fa5f0a0ccabcb5416e19a10ac97", func := "loop.example/g01013/laws.FnExactLoadedCells", spec := "fnExactLoadedCells", unfollowed := true, recurses := true, apart := false }
def FnExactLoadedCellsSaid : Prop := fnExactLoadedCellsRow.holds Try.pinned (OpenSpec.ofChange fnExactLoadedCellsSpec)

/-- ITS FALSE NEIGHBOUR: 'it returns false'. Refute it at one input. -/
def fnExactLoadedCellsWrong : ChangeSpec := { name := "fnExactLoadedCells", fn := fun _ => fun
  | [d1, d2, d3, d4] => { results := [.lit (.bool false)], args := [d1, d2, d3, d4] }
  | _ => none }
def FnExactLoadedCellsWrongFalsely : Prop := fnExactLoadedCellsRow.holds Try.pinned (OpenSpec.ofChange fnExactLoadedCellsWrong)

/-- 'laws.FnDrift': WHATEVER THE INPUT: true; the input reads as it did. -/
def fnDriftSpec : ChangeSpec := { name := "fnDrift", fn := fun _ => fun
  | [d1, d2] => { results := [.lit (.bool true)], args := [d1, d2] }
  | _ => none }
def fnDriftRow : OpenClaim := { program := "ytndnjabalofcnaa", sum := "8cf85b33efd85807aa754a0fbac658e598ec8fa5f0a0ccabcb5416e19a10ac97", func := "loop.example/g01013/laws.FnDrift", spec := "fnDrift", unfollowed := true, recurses := true, apart := false }
def FnDriftSaid : Prop := fnDriftRow.holds Try.pinned (OpenSpec.ofChange fnDriftSpec)

/-- ITS FALSE NEIGHBOUR: 'it returns false'. Refute it at one input. -/
def fnDriftWrong : ChangeSpec := { name := "fnDrift", fn := fun _ => fun
  | [d1, d2] => { results := [.lit (.bool false)], args := [d1, d2] }
  | _ => none }
def FnDriftWrongFalsely : Prop := fnDriftRow.holds Try.pinned (OpenSpec.ofChange fnDriftWrong)

/- THE SECOND FORM. 'bulk': how many values and letters a reading holds, each counted each time it is reached (what is shared counts as often as it is met; a slice's spare places count too). A statement '..UptoSaid' is the law's where the arguments, and the package variables that the reading takes, are together of bulk at most 1048576: NARROWER than '..Said'. Prove '..Said' where nothing that the law and all that it calls make is longer than what came in: it says more and counts as full. Else prove '..UptoSaid'. A law counts once. -/
mutual
def uptoBulk {H : Type} : DataW H → Nat
  | .lit (.string bytes) => bytes.length + 1
  | .lit _ => 1
  | .nil => 1
  | .ptr d => uptoBulk d + 1
  | .slice elems spare => uptoBulkAll elems + uptoBulkAll spare + 1
  | .agg parts => uptoBulkAll parts + 1
  | .iface _ d => uptoBulk d + 1
  | .map entries => uptoBulkEntries entries + 1
  | .held _ => 1
def uptoBulkAll {H : Type} : List (DataW H) → Nat
  | [] => 0
  | d :: r => uptoBulk d + uptoBulkAll r
def uptoBulkEntries {H : Type} : List (Lit × DataW H) → Nat
  | [] => 0
  | x :: r => uptoBulkEntry x + uptoBulkEntries r
def uptoBulkEntry {H : Type} : Lit × DataW H → Nat
  | (.string bytes, d) => bytes.length + uptoBulk d + 1
  | (_, d) => uptoBulk d + 1
 end
def uptoSmall : (H : Type) → List (DataW H) → Bool := fun _ ds => decide (uptoBulkAll ds ≤ 1048576)
def OpenSpec.upto (s : _root_.Go.ChangeSpec) : _root_.Go.OpenSpec := { _root_.Go.OpenSpec.ofChange s with cond := some uptoSmall }

/-- 'laws.FnExactDriftStep', WHERE WHAT IT READS IS OF BULK AT MOST 1048576: true; the input reads as it did. -/
def fnExactDriftStepUptoRow : OpenClaim := { program := "ytndnjabalofcnaa", sum := "8cf85b33efd85807aa754a0fbac658e598ec8fa5f0a0ccabcb5416e19a10ac97", func := "loop.example/g01013/laws.FnExactDriftStep", spec := "fnExactDriftStep", unfollowed := true, recurses := true, apart := false, narrowed := true }
def FnExactDriftStepUptoSaid : Prop := fnExactDriftStepUptoRow.holds Try.pinned (OpenSpec.upto fnExactDriftStepSpec)

/-- 'laws.FnExactWorstWind', WHERE WHAT IT READS IS OF BULK AT MOST 1048576: true; the input reads as it did. -/
def fnExactWorstWindUptoRow : OpenClaim := { program := "ytndnjabalofcnaa", sum := "8cf85b33efd85807aa754a0fbac658e598ec8fa5f0a0ccabcb5416e19a10ac97", func := "loop.example/g01013/laws.FnExactWorstWind", spec := "fnExactWorstWind", unfollowed := true, recurses := true, apart := false, narrowed := true }
def FnExactWorstWindUptoSaid : Prop := fnExactWorstWindUptoRow.holds Try.pinned (OpenSpec.upto fnExactWorstWindSpec)

/-- 'laws.FnExactSettledField', WHERE WHAT IT READS IS OF BULK AT MOST 1048576: true; the input reads as it did. -/
def fnExactSettledFieldUptoRow : OpenClaim := { program := "ytndnjabalofcnaa", sum := "8cf85b33efd85807aa754a0fbac658e598ec8fa5f0a0ccabcb5416e19a10ac97", func := "loop.example/g01013/laws.FnExactSettledField", spec := "fnExactSettledField", unfollowed := true, recurses := true, apart := false, narrowed := true }
def FnExactSettledFieldUptoSaid : Prop := fnExactSettledFieldUptoRow.holds Try.pinned (OpenSpec.upto fnExactSettledFieldSpec)

/-- 'laws.FnExactDriftRun', WHERE WHAT IT READS IS OF BULK AT MOST 1048576: true; the input reads as it did. -/
def fnExactDriftRunUptoRow : OpenClaim := { program := "ytndnjabalofcnaa", sum := "8cf85b33efd85807aa754a0fbac658e598ec8fa5f0a0ccabcb5416e19a10ac97", func := "loop.example/g01013/laws.FnExactDriftRun", spec := "fnExactDriftRun", unfollowed := true, recurses := true, apart := false, narrowed := true }
def FnExactDriftRunUptoSaid : Prop := fnExactDriftRunUptoRow.holds Try.pinned (OpenSpec.upto fnExactDriftRunSpec)

/-- 'laws.FnExactDriftGain', WHERE WHAT IT READS IS OF BULK AT MOST 1048576: true; the input reads as it did. -/
def fnExactDriftGainUptoRow : OpenClaim := { program := "ytndnjabalofcnaa", sum := "8cf85b33efd85807aa754a0fbac658e598ec8fa5f0a0ccabcb5416e19a10ac97", func := "loop.example/g01013/laws.FnExactDriftGain", spec := "fnExactDriftGain", unfollowed := true, recurses := true, apart := false, narrowed := true }
def FnExactDriftGainUptoSaid : Prop := fnExactDriftGainUptoRow.holds Try.pinned (OpenSpec.upto fnExactDriftGainSpec)

/-- 'laws.FnExactLoadedCells', WHERE WHAT IT READS IS OF BULK AT MOST 1048576: true; the input reads as it did. -/
def fnExactLoadedCellsUptoRow : OpenClaim := { program := "ytndnjabalofcnaa", sum := "8cf85b33efd85807aa754a0fbac658e598ec8fa5f0a0ccabcb5416e19a10ac97", func := "loop.example/g01013/laws.FnExactLoadedCells", spec := "fnExactLoadedCells", unfollowed := true, recurses := true, apart := false, narrowed := true }
def FnExactLoadedCellsUptoSaid : Prop := fnExactLoadedCellsUptoRow.holds Try.pinned (OpenSpec.upto fnExactLoadedCellsSpec)

/-- 'laws.FnDrift', WHERE WHAT IT READS IS OF BULK AT MOST 1048576: true; the input reads as it did. -/
def fnDriftUptoRow : OpenClaim := { program := "ytndnjabalofcnaa", sum := "8cf85b33efd85807aa754a0fbac658e598ec8fa5f0a0ccabcb5416e19a10ac97", func := "loop.example/g01013/laws.FnDrift", spec := "fnDrift", unfollowed := true, recurses := true, apart := false, narrowed := true }
def FnDriftUptoSaid : Prop := fnDriftUptoRow.holds Try.pinned (OpenSpec.upto fnDriftSpec)

end Rows
end Go.Proofs.Ytndnjabalofcnaa
