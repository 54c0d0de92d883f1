/-
  No cell of these rows narrows 'for every input' (looked for: loops, veiled, ifaces, maps, wideKeys, modest, calm, conditions, laid).
  DERIVED. THE GIVEN ROWS OF THIS SEAT. 7 by the template 'for every input the law returns true; each argument reads behind the call as it read before'; 0 by the template 'total and deterministic' (their statements: YtipchejcgbmpgaaTotals.lean).
  GIVEN WITH THE SEED: the statements are not yours to turn. If you find one false, say at which input.
  Laid BY PROGRAM, IN A SANDBOX (cutbox-rows.mjs): the forced cells as the released guide's own fill.sh prints them over the translation 33fccbe8740812cf… (all of the seat's roots in one cut). By AI agents, Wed Nov 11 2026. No macro, syntax, notation, axiom, sorry.
-/
import Derived.Test.YtipchejcgbmpgaaChecked
import GoSem.Claim
import GoSem.ClaimJoined
import GoSem.ClaimMapViews
import Derived.JoinedTies
import Derived.KernelRfl
namespace Go.Proofs.Ytipchejcgbmpgaa
/- THE CELL 'sum', in the pinned program and in every row, IS THE sha256 OF THE DUMP (.gsa) THAT YtipchejcgbmpgaaProg.lean LOADS. Nothing in Lean hashes anything: it is a label: what it is worth is what the hold of that sum in a sandbox is worth. -/
noncomputable def Try.pinned : Pinned := { name := "ytipchejcgbmpgaa", sum := "33fccbe8740812cf1de0e89f33ea792124a39d9d438b7eb18434174843a7d762", checked := Try.checked }
namespace Rows
def none {H : Type} : Left H := { results := [], args := [] }

/-- 'laws.FnExactIsStable': WHATEVER THE INPUT: true; the input reads as it did. -/
def fnExactIsStableSpec : ChangeSpec := { name := "fnExactIsStable", fn := fun _ => fun
  | [d1, d2, d3, d4, d5] => { results := [.lit (.bool true)], args := [d1, d2, d3, d4, d5] }
  | _ => none }
def fnExactIsStableRow : OpenClaim := { program := "ytipchejcgbmpgaa", sum := "33fccbe8740812cf1de0e89f33ea792124a39d9d438b7eb18434174843a7d762", func := "loop.example/g01013/laws.FnExactIsStable", spec := "fnExactIsStable", unfollowed := true, recurses := true, apart := false }
def FnExactIsStableSaid : Prop := fnExactIsStableRow.holds Try.pinned (OpenSpec.ofChange fnExactIsStableSpec)

/-- ITS FALSE NEIGHBOUR: 'it returns false'. Refute it at one input. -/
def fnExactIsStableWrong : ChangeSpec := { name := "fnExactIsStable", fn := fun _ => fun
  | [d1, d2, d3, d4, d5] => { results := [.lit (.bool false)], args := [d1, d2, d3, d4, d5] }
  | _ => none }
def FnExactIsStableWrongFalsely : Prop := fnExactIsStableRow.holds Try.pinned (OpenSpec.ofChange fnExactIsStableWrong)

/-- 'laws.FnExactWeakestLayer': WHATEVER THE INPUT: true; the input reads as it did. -/
def fnExactWeakestLayerSpec : ChangeSpec := { name := "fnExactWeakestLayer", fn := fun _ => fun
  | [d1, d2, d3, d4] => { results := [.lit (.bool true)], args := [d1, d2, d3, d4] }
  | _ => none }
def fnExactWeakestLayerRow : OpenClaim := { program := "ytipchejcgbmpgaa", sum := "33fccbe8740812cf1de0e89f33ea792124a39d9d438b7eb18434174843a7d762", func := "loop.example/g01013/laws.FnExactWeakestLayer", spec := "fnExactWeakestLayer", unfollowed := true, recurses := true, apart := false }
def FnExactWeakestLayerSaid : Prop := fnExactWeakestLayerRow.holds Try.pinned (OpenSpec.ofChange fnExactWeakestLayerSpec)

/-- ITS FALSE NEIGHBOUR: 'it returns false'. Refute it at one input. -/
def fnExactWeakestLayerWrong : ChangeSpec := { name := "fnExactWeakestLayer", fn := fun _ => fun
  | [d1, d2, d3, d4] => { results := [.lit (.bool false)], args := [d1, d2, d3, d4] }
  | _ => none }
def FnExactWeakestLayerWrongFalsely : Prop := fnExactWeakestLayerRow.holds Try.pinned (OpenSpec.ofChange fnExactWeakestLayerWrong)

/-- 'laws.FnExactSteepestFor': WHATEVER THE INPUT: true; the input reads as it did. -/
def fnExactSteepestForSpec : ChangeSpec := { name := "fnExactSteepestFor", fn := fun _ => fun
  | [d1, d2, d3, d4] => { results := [.lit (.bool true)], args := [d1, d2, d3, d4] }
  | _ => none }
def fnExactSteepestForRow : OpenClaim := { program := "ytipchejcgbmpgaa", sum := "33fccbe8740812cf1de0e89f33ea792124a39d9d438b7eb18434174843a7d762", func := "loop.example/g01013/laws.FnExactSteepestFor", spec := "fnExactSteepestFor", unfollowed := true, recurses := true, apart := false }
def FnExactSteepestForSaid : Prop := fnExactSteepestForRow.holds Try.pinned (OpenSpec.ofChange fnExactSteepestForSpec)

/-- ITS FALSE NEIGHBOUR: 'it returns false'. Refute it at one input. -/
def fnExactSteepestForWrong : ChangeSpec := { name := "fnExactSteepestFor", fn := fun _ => fun
  | [d1, d2, d3, d4] => { results := [.lit (.bool false)], args := [d1, d2, d3, d4] }
  | _ => none }
def FnExactSteepestForWrongFalsely : Prop := fnExactSteepestForRow.holds Try.pinned (OpenSpec.ofChange fnExactSteepestForWrong)

/-- 'laws.FnExactSlabOf': WHATEVER THE INPUT: true; the input reads as it did. -/
def fnExactSlabOfSpec : ChangeSpec := { name := "fnExactSlabOf", fn := fun _ => fun
  | [d1, d2, d3, d4] => { results := [.lit (.bool true)], args := [d1, d2, d3, d4] }
  | _ => none }
def fnExactSlabOfRow : OpenClaim := { program := "ytipchejcgbmpgaa", sum := "33fccbe8740812cf1de0e89f33ea792124a39d9d438b7eb18434174843a7d762", func := "loop.example/g01013/laws.FnExactSlabOf", spec := "fnExactSlabOf", unfollowed := true, recurses := true, apart := false }
def FnExactSlabOfSaid : Prop := fnExactSlabOfRow.holds Try.pinned (OpenSpec.ofChange fnExactSlabOfSpec)

/-- ITS FALSE NEIGHBOUR: 'it returns false'. Refute it at one input. -/
def fnExactSlabOfWrong : ChangeSpec := { name := "fnExactSlabOf", fn := fun _ => fun
  | [d1, d2, d3, d4] => { results := [.lit (.bool false)], args := [d1, d2, d3, d4] }
  | _ => none }
def FnExactSlabOfWrongFalsely : Prop := fnExactSlabOfRow.holds Try.pinned (OpenSpec.ofChange fnExactSlabOfWrong)

/-- 'laws.FnExactMoreLoad': WHATEVER THE INPUT: true; the input reads as it did. -/
def fnExactMoreLoadSpec : ChangeSpec := { name := "fnExactMoreLoad", fn := fun _ => fun
  | [d1, d2, d3, d4, d5] => { results := [.lit (.bool true)], args := [d1, d2, d3, d4, d5] }
  | _ => none }
def fnExactMoreLoadRow : OpenClaim := { program := "ytipchejcgbmpgaa", sum := "33fccbe8740812cf1de0e89f33ea792124a39d9d438b7eb18434174843a7d762", func := "loop.example/g01013/laws.FnExactMoreLoad", spec := "fnExactMoreLoad", unfollowed := true, recurses := true, apart := false }
def FnExactMoreLoadSaid : Prop := fnExactMoreLoadRow.holds Try.pinned (OpenSpec.ofChange fnExactMoreLoadSpec)

/-- ITS FALSE NEIGHBOUR: 'it returns false'. Refute it at one input. -/
def fnExactMoreLoadWrong : ChangeSpec := { name := "fnExactMoreLoad", fn := fun _ => fun
  | [d1, d2, d3, d4, d5] => { results := [.lit (.bool false)], args := [d1, d2, d3, d4, d5] }
  | _ => none }
def FnExactMoreLoadWrongFalsely : Prop := fnExactMoreLoadRow.holds Try.pinned (OpenSpec.ofChange fnExactMoreLoadWrong)

/-- 'laws.FnExactLevelOfSlopes': WHATEVER THE INPUT: true; the input reads as it did. -/
def fnExactLevelOfSlopesSpec : ChangeSpec := { name := "fnExactLevelOfSlopes", fn := fun _ => fun
  | [d1, d2, d3, d4, d5] => { results := [.lit (.bool true)], args := [d1, d2, d3, d4, d5] }
  | _ => none }
def fnExactLevelOfSlopesRow : OpenClaim := { program := "ytipchejcgbmpgaa", sum := "33fccbe8740812cf1de0e89f33ea792124a39d9d438b7eb18434174843a7d762", func := "loop.example/g01013/laws.FnExactLevelOfSlopes", spec := "fnExactLevelOfSlopes", unfollowed := true, recurses := true, apart := false }
def FnExactLevelOfSlopesSaid : Prop := fnExactLevelOfSlopesRow.holds Try.pinned (OpenSpec.ofChange fnExactLevelOfSlopesSpec)

/-- ITS FALSE NEIGHBOUR: 'it returns false'. Refute it at one input. -/
def fnExactLevelOfSlopesWrong : ChangeSpec := { name := "fnExactLevelOfSlopes", fn := fun _ => fun
  | [d1, d2, d3, d4, d5] => { results := [.lit (.bool false)], args := [d1, d2, d3, d4, d5] }
  | _ => none }
def FnExactLevelOfSlopesWrongFalsely : Prop := fnExactLevelOfSlopesRow.holds Try.pinned (OpenSpec.ofChange fnExactLevelOfSlopesWrong)

/-- 'laws.FnDanger': WHATEVER THE INPUT: true; the input reads as it did. -/
def fnDangerSpec : ChangeSpec := { name := "fnDanger", fn := fun _ => fun
  | [d1, d2] => { results := [.lit (.bool true)], args := [d1, d2] }
  | _ => none }
def fnDangerRow : OpenClaim := { program := "ytipchejcgbmpgaa", sum := "33fccbe8740812cf1de0e89f33ea792124a39d9d438b7eb18434174843a7d762", func := "loop.example/g01013/laws.FnDanger", spec := "fnDanger", unfollowed := true, recurses := true, apart := false }
def FnDangerSaid : Prop := fnDangerRow.holds Try.pinned (OpenSpec.ofChange fnDangerSpec)

/-- ITS FALSE NEIGHBOUR: 'it returns false'. Refute it at one input. -/
def fnDangerWrong : ChangeSpec := { name := "fnDanger", fn := fun _ => fun
  | [d1, d2] => { results := [.lit (.bool false)], args := [d1, d2] }
  | _ => none }
def FnDangerWrongFalsely : Prop := fnDangerRow.holds Try.pinned (OpenSpec.ofChange fnDangerWrong)

/- THE SECOND FORM. 'bulk': how many values and letters a reading holds, each counted each time it is reached (what is shared counts as often as it is met; a slice's spare places count too). A statement '..UptoSaid' is the law's where the arguments, and the package variables that the reading takes, are together of bulk at most 1048576: NARROWER than '..Said'. Prove '..Said' where nothing that the law and all that it calls make is longer than what came in: it says more and counts as full. Else prove '..UptoSaid'. A law counts once. -/
mutual
def uptoBulk {H : Type} : DataW H → Nat
  | .lit (.string bytes) => bytes.length + 1
  | .lit _ => 1
  | .nil => 1
  | .ptr d => uptoBulk d + 1
  | .slice elems spare => uptoBulkAll elems + uptoBulkAll spare + 1
  | .agg parts => uptoBulkAll parts + 1
  | .iface _ d => uptoBulk d + 1
  | .map entries => uptoBulkEntries entries + 1
  | .held _ => 1
def uptoBulkAll {H : Type} : List (DataW H) → Nat
  | [] => 0
  | d :: r => uptoBulk d + uptoBulkAll r
def uptoBulkEntries {H : Type} : List (Lit × DataW H) → Nat
  | [] => 0
  | x :: r => uptoBulkEntry x + uptoBulkEntries r
def uptoBulkEntry {H : Type} : Lit × DataW H → Nat
  | (.string bytes, d) => bytes.length + uptoBulk d + 1
  | (_, d) => uptoBulk d + 1
 end
def uptoSmall : (H : Type) → List (DataW H) → Bool := fun _ ds => decide (uptoBulkAll ds ≤ 1048576)
def OpenSpec.upto (s : _root_.Go.ChangeSpec) : _root_.Go.OpenSpec := { _root_.Go.OpenSpec.ofChange s with cond := some uptoSmall }

/-- 'laws.FnExactIsStable', WHERE WHAT IT READS IS OF BULK AT MOST 1048576: true; the input reads as it did. -/
def fnExactIsStableUptoRow : OpenClaim := { program := "ytipchejcgbmpgaa", sum := "33fccbe8740812cf1de0e89f33ea792124a39d9d438b7eb18434174843a7d762", func := "loop.example/g01013/laws.FnExactIsStable", spec := "fnExactIsStable", unfollowed := true, recurses := true, apart := false, narrowed := true }
def FnExactIsStableUptoSaid : Prop := fnExactIsStableUptoRow.holds Try.pinned (OpenSpec.upto fnExactIsStableSpec)

/-- 'laws.FnExactWeakestLayer', WHERE WHAT IT READS IS OF BULK AT MOST 1048576: true; the input reads as it did. -/
def fnExactWeakestLayerUptoRow : OpenClaim := { program := "ytipchejcgbmpgaa", sum := "33fccbe8740812cf1de0e89f33ea792124a39d9d438b7eb18434174843a7d762", func := "loop.example/g01013/laws.FnExactWeakestLayer", spec := "fnExactWeakestLayer", unfollowed := true, recurses := true, apart := false, narrowed := true }
def FnExactWeakestLayerUptoSaid : Prop := fnExactWeakestLayerUptoRow.holds Try.pinned (OpenSpec.upto fnExactWeakestLayerSpec)

/-- 'laws.FnExactSteepestFor', WHERE WHAT IT READS IS OF BULK AT MOST 1048576: true; the input reads as it did. -/
def fnExactSteepestForUptoRow : OpenClaim := { program := "ytipchejcgbmpgaa", sum := "33fccbe8740812cf1de0e89f33ea792124a39d9d438b7eb18434174843a7d762", func := "loop.example/g01013/laws.FnExactSteepestFor", spec := "fnExactSteepestFor", unfollowed := true, recurses := true, apart := false, narrowed := true }
def FnExactSteepestForUptoSaid : Prop := fnExactSteepestForUptoRow.holds Try.pinned (OpenSpec.upto fnExactSteepestForSpec)

/-- 'laws.FnExactSlabOf', WHERE WHAT IT READS IS OF BULK AT MOST 1048576: true; the input reads as it did. -/
def fnExactSlabOfUptoRow : OpenClaim := { program := "ytipchejcgbmpgaa", sum := "33fccbe8740812cf1de0e89f33ea792124a39d9d438b7eb18434174843a7d762", func := "loop.example/g01013/laws.FnExactSlabOf", spec := "fnExactSlabOf", unfollowed := true, recurses := true, apart := false, narrowed := true }
def FnExactSlabOfUptoSaid : Prop := fnExactSlabOfUptoRow.holds Try.pinned (OpenSpec.upto fnExactSlabOfSpec)

/-- 'laws.FnExactMoreLoad', WHERE WHAT IT READS IS OF BULK AT MOST 1048576: true; the input reads as it did. -/
def fnExactMoreLoadUptoRow : OpenClaim := { program := "ytipchejcgbmpgaa", sum := "33fccbe8740812cf1de0e89f33ea792124a39d9d438b7eb18434174843a7d762", func := "loop.example/g01013/laws.FnExactMoreLoad", spec := "fnExactMoreLoad", unfollowed := true, recurses := true, apart := false, narrowed := true }
def FnExactMoreLoadUptoSaid : Prop := fnExactMoreLoadUptoRow.holds Try.pinned (OpenSpec.upto fnExactMoreLoadSpec)

/-- 'laws.FnExactLevelOfSlopes', WHERE WHAT IT READS IS OF BULK AT MOST 1048576: true; the input reads as it did. -/
def fnExactLevelOfSlopesUptoRow : OpenClaim := { program := "ytipchejcgbmpgaa", sum := "33fccbe8740812cf1de0e89f33ea792124a39d9d438b7eb18434174843a7d762", func := "loop.example/g01013/laws.FnExactLevelOfSlopes", spec := "fnExactLevelOfSlopes", unfollowed := true, recurses := true, apart := false, narrowed := true }
def FnExactLevelOfSlopesUptoSaid : Prop := fnExactLevelOfSlopesUptoRow.holds Try.pinned (OpenSpec.upto fnExactLevelOfSlopesSpec)

/-- 'laws.FnDanger', WHERE WHAT IT READS IS OF BULK AT MOST 1048576: true; the input reads as it did. -/
def fnDangerUptoRow : OpenClaim := { program := "ytipchejcgbmpgaa", sum := "33fccbe8740812cf1de0e89f33ea792124a39d9d438b7eb18434174843a7d762", func := "loop.example/g01013/laws.FnDanger", spec := "fnDanger", unfollowed := true, recurses := true, apart := false, narrowed := true }
def FnDangerUptoSaid : Prop := fnDangerUptoRow.holds Try.pinned (OpenSpec.upto fnDangerSpec)

end Rows
end Go.Proofs.Ytipchejcgbmpgaa
