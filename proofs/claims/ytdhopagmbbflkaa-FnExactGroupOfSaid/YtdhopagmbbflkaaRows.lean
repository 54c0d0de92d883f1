/-
  No cell of these rows narrows 'for every input' (looked for: loops, veiled, ifaces, maps, wideKeys, modest, calm, conditions, laid).
  DERIVED. THE GIVEN ROWS OF THIS SEAT. 9 by the template 'for every input the law returns true; each argument reads behind the call as it read before'; 0 by the template 'total and deterministic' (their statements: YtdhopagmbbflkaaTotals.lean).
  GIVEN WITH THE SEED: the statements are not yours to turn. If you find one false, say at which input.
  Laid BY PROGRAM, IN A SANDBOX (cutbox-rows.mjs): the forced cells as the released guide's own fill.sh prints them over the translation 1e1ce342370c499a… (all of the seat's roots in one cut). By AI agents, Wed Nov 11 2026. No macro, syntax, notation, axiom, sorry.
-/
import Derived.Test.YtdhopagmbbflkaaChecked
import GoSem.Claim
import GoSem.ClaimJoined
import GoSem.ClaimMapViews
import Derived.JoinedTies
import Derived.KernelRfl
namespace Go.Proofs.Ytdhopagmbbflkaa
/- THE CELL 'sum', in the pinned program and in every row, IS THE sha256 OF THE DUMP (.gsa) THAT YtdhopagmbbflkaaProg.lean LOADS. Nothing in Lean hashes anything: it is a label: what it is worth is what the hold of that sum in a sandbox is worth. -/
noncomputable def Try.pinned : Pinned := { name := "ytdhopagmbbflkaa", sum := "1e1ce342370c499a579f0f8c83813b4dd3b4a1be854bde9caaf2a60824bd4a54", checked := Try.checked }
namespace Rows
def none {H : Type} : Left H := { results := [], args := [] }

/-- 'laws.FnExactSameRegions': WHATEVER THE INPUT: true; the input reads as it did. -/
def fnExactSameRegionsSpec : ChangeSpec := { name := "fnExactSameRegions", fn := fun _ => fun
  | [d1, d2] => { results := [.lit (.bool true)], args := [d1, d2] }
  | _ => none }
def fnExactSameRegionsRow : OpenClaim := { program := "ytdhopagmbbflkaa", sum := "1e1ce342370c499a579f0f8c83813b4dd3b4a1be854bde9caaf2a60824bd4a54", func := "loop.example/g01013/laws.FnExactSameRegions", spec := "fnExactSameRegions", unfollowed := true, recurses := true, apart := false }
def FnExactSameRegionsSaid : Prop := fnExactSameRegionsRow.holds Try.pinned (OpenSpec.ofChange fnExactSameRegionsSpec)

/-- ITS FALSE NEIGHBOUR: 'it returns false'. Refute it at one input. -/
def fnExactSameRegionsWrong : ChangeSpec := { name := "fnExactSameRegions", fn := fun _ => fun
  | [d1, d2] => { results := [.lit (.bool false)], args := [d1, d2] }
  | _ => none }
def FnExactSameRegionsWrongFalsely : Prop := fnExactSameRegionsRow.holds Try.pinned (OpenSpec.ofChange fnExactSameRegionsWrong)

/-- 'laws.FnExactValidRegions': WHATEVER THE INPUT: true; the input reads as it did. -/
def fnExactValidRegionsSpec : ChangeSpec := { name := "fnExactValidRegions", fn := fun _ => fun
  | [d] => { results := [.lit (.bool true)], args := [d] }
  | _ => none }
def fnExactValidRegionsRow : OpenClaim := { program := "ytdhopagmbbflkaa", sum := "1e1ce342370c499a579f0f8c83813b4dd3b4a1be854bde9caaf2a60824bd4a54", func := "loop.example/g01013/laws.FnExactValidRegions", spec := "fnExactValidRegions", unfollowed := true, recurses := true, apart := false }
def FnExactValidRegionsSaid : Prop := fnExactValidRegionsRow.holds Try.pinned (OpenSpec.ofChange fnExactValidRegionsSpec)

/-- ITS FALSE NEIGHBOUR: 'it returns false'. Refute it at one input. -/
def fnExactValidRegionsWrong : ChangeSpec := { name := "fnExactValidRegions", fn := fun _ => fun
  | [d] => { results := [.lit (.bool false)], args := [d] }
  | _ => none }
def FnExactValidRegionsWrongFalsely : Prop := fnExactValidRegionsRow.holds Try.pinned (OpenSpec.ofChange fnExactValidRegionsWrong)

/-- 'laws.FnExactHighRegions': WHATEVER THE INPUT: true; the input reads as it did. -/
def fnExactHighRegionsSpec : ChangeSpec := { name := "fnExactHighRegions", fn := fun _ => fun
  | [d1, d2] => { results := [.lit (.bool true)], args := [d1, d2] }
  | _ => none }
def fnExactHighRegionsRow : OpenClaim := { program := "ytdhopagmbbflkaa", sum := "1e1ce342370c499a579f0f8c83813b4dd3b4a1be854bde9caaf2a60824bd4a54", func := "loop.example/g01013/laws.FnExactHighRegions", spec := "fnExactHighRegions", unfollowed := true, recurses := true, apart := false }
def FnExactHighRegionsSaid : Prop := fnExactHighRegionsRow.holds Try.pinned (OpenSpec.ofChange fnExactHighRegionsSpec)

/-- ITS FALSE NEIGHBOUR: 'it returns false'. Refute it at one input. -/
def fnExactHighRegionsWrong : ChangeSpec := { name := "fnExactHighRegions", fn := fun _ => fun
  | [d1, d2] => { results := [.lit (.bool false)], args := [d1, d2] }
  | _ => none }
def FnExactHighRegionsWrongFalsely : Prop := fnExactHighRegionsRow.holds Try.pinned (OpenSpec.ofChange fnExactHighRegionsWrong)

/-- 'laws.FnExactSetLevel': WHATEVER THE INPUT: true; the input reads as it did. -/
def fnExactSetLevelSpec : ChangeSpec := { name := "fnExactSetLevel", fn := fun _ => fun
  | [d1, d2, d3] => { results := [.lit (.bool true)], args := [d1, d2, d3] }
  | _ => none }
def fnExactSetLevelRow : OpenClaim := { program := "ytdhopagmbbflkaa", sum := "1e1ce342370c499a579f0f8c83813b4dd3b4a1be854bde9caaf2a60824bd4a54", func := "loop.example/g01013/laws.FnExactSetLevel", spec := "fnExactSetLevel", unfollowed := true, recurses := true, apart := false }
def FnExactSetLevelSaid : Prop := fnExactSetLevelRow.holds Try.pinned (OpenSpec.ofChange fnExactSetLevelSpec)

/-- ITS FALSE NEIGHBOUR: 'it returns false'. Refute it at one input. -/
def fnExactSetLevelWrong : ChangeSpec := { name := "fnExactSetLevel", fn := fun _ => fun
  | [d1, d2, d3] => { results := [.lit (.bool false)], args := [d1, d2, d3] }
  | _ => none }
def FnExactSetLevelWrongFalsely : Prop := fnExactSetLevelRow.holds Try.pinned (OpenSpec.ofChange fnExactSetLevelWrong)

/-- 'laws.FnExactSpreadLevel': WHATEVER THE INPUT: true; the input reads as it did. -/
def fnExactSpreadLevelSpec : ChangeSpec := { name := "fnExactSpreadLevel", fn := fun _ => fun
  | [d1, d2] => { results := [.lit (.bool true)], args := [d1, d2] }
  | _ => none }
def fnExactSpreadLevelRow : OpenClaim := { program := "ytdhopagmbbflkaa", sum := "1e1ce342370c499a579f0f8c83813b4dd3b4a1be854bde9caaf2a60824bd4a54", func := "loop.example/g01013/laws.FnExactSpreadLevel", spec := "fnExactSpreadLevel", unfollowed := true, recurses := true, apart := false }
def FnExactSpreadLevelSaid : Prop := fnExactSpreadLevelRow.holds Try.pinned (OpenSpec.ofChange fnExactSpreadLevelSpec)

/-- ITS FALSE NEIGHBOUR: 'it returns false'. Refute it at one input. -/
def fnExactSpreadLevelWrong : ChangeSpec := { name := "fnExactSpreadLevel", fn := fun _ => fun
  | [d1, d2] => { results := [.lit (.bool false)], args := [d1, d2] }
  | _ => none }
def FnExactSpreadLevelWrongFalsely : Prop := fnExactSpreadLevelRow.holds Try.pinned (OpenSpec.ofChange fnExactSpreadLevelWrong)

/-- 'laws.FnExactMergeRegions': WHATEVER THE INPUT: true; the input reads as it did. -/
def fnExactMergeRegionsSpec : ChangeSpec := { name := "fnExactMergeRegions", fn := fun _ => fun
  | [d1, d2] => { results := [.lit (.bool true)], args := [d1, d2] }
  | _ => none }
def fnExactMergeRegionsRow : OpenClaim := { program := "ytdhopagmbbflkaa", sum := "1e1ce342370c499a579f0f8c83813b4dd3b4a1be854bde9caaf2a60824bd4a54", func := "loop.example/g01013/laws.FnExactMergeRegions", spec := "fnExactMergeRegions", unfollowed := true, recurses := true, apart := false }
def FnExactMergeRegionsSaid : Prop := fnExactMergeRegionsRow.holds Try.pinned (OpenSpec.ofChange fnExactMergeRegionsSpec)

/-- ITS FALSE NEIGHBOUR: 'it returns false'. Refute it at one input. -/
def fnExactMergeRegionsWrong : ChangeSpec := { name := "fnExactMergeRegions", fn := fun _ => fun
  | [d1, d2] => { results := [.lit (.bool false)], args := [d1, d2] }
  | _ => none }
def FnExactMergeRegionsWrongFalsely : Prop := fnExactMergeRegionsRow.holds Try.pinned (OpenSpec.ofChange fnExactMergeRegionsWrong)

/-- 'laws.FnExactCountBulletins': WHATEVER THE INPUT: true; the input reads as it did. -/
def fnExactCountBulletinsSpec : ChangeSpec := { name := "fnExactCountBulletins", fn := fun _ => fun
  | [d] => { results := [.lit (.bool true)], args := [d] }
  | _ => none }
def fnExactCountBulletinsRow : OpenClaim := { program := "ytdhopagmbbflkaa", sum := "1e1ce342370c499a579f0f8c83813b4dd3b4a1be854bde9caaf2a60824bd4a54", func := "loop.example/g01013/laws.FnExactCountBulletins", spec := "fnExactCountBulletins", unfollowed := true, recurses := true, apart := false }
def FnExactCountBulletinsSaid : Prop := fnExactCountBulletinsRow.holds Try.pinned (OpenSpec.ofChange fnExactCountBulletinsSpec)

/-- ITS FALSE NEIGHBOUR: 'it returns false'. Refute it at one input. -/
def fnExactCountBulletinsWrong : ChangeSpec := { name := "fnExactCountBulletins", fn := fun _ => fun
  | [d] => { results := [.lit (.bool false)], args := [d] }
  | _ => none }
def FnExactCountBulletinsWrongFalsely : Prop := fnExactCountBulletinsRow.holds Try.pinned (OpenSpec.ofChange fnExactCountBulletinsWrong)

/-- 'laws.FnExactGroupOf': WHATEVER THE INPUT: true; the input reads as it did. -/
def fnExactGroupOfSpec : ChangeSpec := { name := "fnExactGroupOf", fn := fun _ => fun
  | [d1, d2] => { results := [.lit (.bool true)], args := [d1, d2] }
  | _ => none }
def fnExactGroupOfRow : OpenClaim := { program := "ytdhopagmbbflkaa", sum := "1e1ce342370c499a579f0f8c83813b4dd3b4a1be854bde9caaf2a60824bd4a54", func := "loop.example/g01013/laws.FnExactGroupOf", spec := "fnExactGroupOf", unfollowed := true, recurses := true, apart := false }
def FnExactGroupOfSaid : Prop := fnExactGroupOfRow.holds Try.pinned (OpenSpec.ofChange fnExactGroupOfSpec)

/-- ITS FALSE NEIGHBOUR: 'it returns false'. Refute it at one input. -/
def fnExactGroupOfWrong : ChangeSpec := { name := "fnExactGroupOf", fn := fun _ => fun
  | [d1, d2] => { results := [.lit (.bool false)], args := [d1, d2] }
  | _ => none }
def FnExactGroupOfWrongFalsely : Prop := fnExactGroupOfRow.holds Try.pinned (OpenSpec.ofChange fnExactGroupOfWrong)

/-- 'laws.FnExactJoinedRegions': WHATEVER THE INPUT: true; the input reads as it did. -/
def fnExactJoinedRegionsSpec : ChangeSpec := { name := "fnExactJoinedRegions", fn := fun _ => fun
  | [d] => { results := [.lit (.bool true)], args := [d] }
  | _ => none }
def fnExactJoinedRegionsRow : OpenClaim := { program := "ytdhopagmbbflkaa", sum := "1e1ce342370c499a579f0f8c83813b4dd3b4a1be854bde9caaf2a60824bd4a54", func := "loop.example/g01013/laws.FnExactJoinedRegions", spec := "fnExactJoinedRegions", unfollowed := true, recurses := true, apart := false }
def FnExactJoinedRegionsSaid : Prop := fnExactJoinedRegionsRow.holds Try.pinned (OpenSpec.ofChange fnExactJoinedRegionsSpec)

/-- ITS FALSE NEIGHBOUR: 'it returns false'. Refute it at one input. -/
def fnExactJoinedRegionsWrong : ChangeSpec := { name := "fnExactJoinedRegions", fn := fun _ => fun
  | [d] => { results := [.lit (.bool false)], args := [d] }
  | _ => none }
def FnExactJoinedRegionsWrongFalsely : Prop := fnExactJoinedRegionsRow.holds Try.pinned (OpenSpec.ofChange fnExactJoinedRegionsWrong)

/- THE SECOND FORM. 'bulk': how many values and letters a reading holds, each counted each time it is reached (what is shared counts as often as it is met; a slice's spare places count too). A statement '..UptoSaid' is the law's where the arguments, and the package variables that the reading takes, are together of bulk at most 1048576: NARROWER than '..Said'. Prove '..Said' where nothing that the law and all that it calls make is longer than what came in: it says more and counts as full. Else prove '..UptoSaid'. A law counts once. -/
mutual
def uptoBulk {H : Type} : DataW H → Nat
  | .lit (.string bytes) => bytes.length + 1
  | .lit _ => 1
  | .nil => 1
  | .ptr d => uptoBulk d + 1
  | .slice elems spare => uptoBulkAll elems + uptoBulkAll spare + 1
  | .agg parts => uptoBulkAll parts + 1
  | .iface _ d => uptoBulk d + 1
  | .map entries => uptoBulkEntries entries + 1
  | .held _ => 1
def uptoBulkAll {H : Type} : List (DataW H) → Nat
  | [] => 0
  | d :: r => uptoBulk d + uptoBulkAll r
def uptoBulkEntries {H : Type} : List (Lit × DataW H) → Nat
  | [] => 0
  | x :: r => uptoBulkEntry x + uptoBulkEntries r
def uptoBulkEntry {H : Type} : Lit × DataW H → Nat
  | (.string bytes, d) => bytes.length + uptoBulk d + 1
  | (_, d) => uptoBulk d + 1
 end
def uptoSmall : (H : Type) → List (DataW H) → Bool := fun _ ds => decide (uptoBulkAll ds ≤ 1048576)
def OpenSpec.upto (s : _root_.Go.ChangeSpec) : _root_.Go.OpenSpec := { _root_.Go.OpenSpec.ofChange s with cond := some uptoSmall }

/-- 'laws.FnExactSameRegions', WHERE WHAT IT READS IS OF BULK AT MOST 1048576: true; the input reads as it did. -/
def fnExactSameRegionsUptoRow : OpenClaim := { program := "ytdhopagmbbflkaa", sum := "1e1ce342370c499a579f0f8c83813b4dd3b4a1be854bde9caaf2a60824bd4a54", func := "loop.example/g01013/laws.FnExactSameRegions", spec := "fnExactSameRegions", unfollowed := true, recurses := true, apart := false, narrowed := true }
def FnExactSameRegionsUptoSaid : Prop := fnExactSameRegionsUptoRow.holds Try.pinned (OpenSpec.upto fnExactSameRegionsSpec)

/-- 'laws.FnExactValidRegions', WHERE WHAT IT READS IS OF BULK AT MOST 1048576: true; the input reads as it did. -/
def fnExactValidRegionsUptoRow : OpenClaim := { program := "ytdhopagmbbflkaa", sum := "1e1ce342370c499a579f0f8c83813b4dd3b4a1be854bde9caaf2a60824bd4a54", func := "loop.example/g01013/laws.FnExactValidRegions", spec := "fnExactValidRegions", unfollowed := true, recurses := true, apart := false, narrowed := true }
def FnExactValidRegionsUptoSaid : Prop := fnExactValidRegionsUptoRow.holds Try.pinned (OpenSpec.upto fnExactValidRegionsSpec)

/-- 'laws.FnExactHighRegions', WHERE WHAT IT READS IS OF BULK AT MOST 1048576: true; the input reads as it did. -/
def fnExactHighRegionsUptoRow : OpenClaim := { program := "ytdhopagmbbflkaa", sum := "1e1ce342370c499a579f0f8c83813b4dd3b4a1be854bde9caaf2a60824bd4a54", func := "loop.example/g01013/laws.FnExactHighRegions", spec := "fnExactHighRegions", unfollowed := true, recurses := true, apart := false, narrowed := true }
def FnExactHighRegionsUptoSaid : Prop := fnExactHighRegionsUptoRow.holds Try.pinned (OpenSpec.upto fnExactHighRegionsSpec)

/-- 'laws.FnExactSetLevel', WHERE WHAT IT READS IS OF BULK AT MOST 1048576: true; the input reads as it did. -/
def fnExactSetLevelUptoRow : OpenClaim := { program := "ytdhopagmbbflkaa", sum := "1e1ce342370c499a579f0f8c83813b4dd3b4a1be854bde9caaf2a60824bd4a54", func := "loop.example/g01013/laws.FnExactSetLevel", spec := "fnExactSetLevel", unfollowed := true, recurses := true, apart := false, narrowed := true }
def FnExactSetLevelUptoSaid : Prop := fnExactSetLevelUptoRow.holds Try.pinned (OpenSpec.upto fnExactSetLevelSpec)

/-- 'laws.FnExactSpreadLevel', WHERE WHAT IT READS IS OF BULK AT MOST 1048576: true; the input reads as it did. -/
def fnExactSpreadLevelUptoRow : OpenClaim := { program := "ytdhopagmbbflkaa", sum := "1e1ce342370c499a579f0f8c83813b4dd3b4a1be854bde9caaf2a60824bd4a54", func := "loop.example/g01013/laws.FnExactSpreadLevel", spec := "fnExactSpreadLevel", unfollowed := true, recurses := true, apart := false, narrowed := true }
def FnExactSpreadLevelUptoSaid : Prop := fnExactSpreadLevelUptoRow.holds Try.pinned (OpenSpec.upto fnExactSpreadLevelSpec)

/-- 'laws.FnExactMergeRegions', WHERE WHAT IT READS IS OF BULK AT MOST 1048576: true; the input reads as it did. -/
def fnExactMergeRegionsUptoRow : OpenClaim := { program := "ytdhopagmbbflkaa", sum := "1e1ce342370c499a579f0f8c83813b4dd3b4a1be854bde9caaf2a60824bd4a54", func := "loop.example/g01013/laws.FnExactMergeRegions", spec := "fnExactMergeRegions", unfollowed := true, recurses := true, apart := false, narrowed := true }
def FnExactMergeRegionsUptoSaid : Prop := fnExactMergeRegionsUptoRow.holds Try.pinned (OpenSpec.upto fnExactMergeRegionsSpec)

/-- 'laws.FnExactCountBulletins', WHERE WHAT IT READS IS OF BULK AT MOST 1048576: true; the input reads as it did. -/
def fnExactCountBulletinsUptoRow : OpenClaim := { program := "ytdhopagmbbflkaa", sum := "1e1ce342370c499a579f0f8c83813b4dd3b4a1be854bde9caaf2a60824bd4a54", func := "loop.example/g01013/laws.FnExactCountBulletins", spec := "fnExactCountBulletins", unfollowed := true, recurses := true, apart := false, narrowed := true }
def FnExactCountBulletinsUptoSaid : Prop := fnExactCountBulletinsUptoRow.holds Try.pinned (OpenSpec.upto fnExactCountBulletinsSpec)

/-- 'laws.FnExactGroupOf', WHERE WHAT IT READS IS OF BULK AT MOST 1048576: true; the input reads as it did. -/
def fnExactGroupOfUptoRow : OpenClaim := { program := "ytdhopagmbbflkaa", sum := "1e1ce342370c499a579f0f8c83813b4dd3b4a1be854bde9caaf2a60824bd4a54", func := "loop.example/g01013/laws.FnExactGroupOf", spec := "fnExactGroupOf", unfollowed := true, recurses := true, apart := false, narrowed := true }
def FnExactGroupOfUptoSaid : Prop := fnExactGroupOfUptoRow.holds Try.pinned (OpenSpec.upto fnExactGroupOfSpec)

/-- 'laws.FnExactJoinedRegions', WHERE WHAT IT READS IS OF BULK AT MOST 1048576: true; the input reads as it did. -/
def fnExactJoinedRegionsUptoRow : OpenClaim := { program := "ytdhopagmbbflkaa", sum := "1e1ce342370c499a579f0f8c83813b4dd3b4a1be854bde9caaf2a60824bd4a54", func := "loop.example/g01013/laws.FnExactJoinedRegions", spec := "fnExactJoinedRegions", unfollowed := true, recurses := true, apart := false, narrowed := true }
def FnExactJoinedRegionsUptoSaid : Prop := fnExactJoinedRegionsUptoRow.holds Try.pinned (OpenSpec.upto fnExactJoinedRegionsSpec)

end Rows
end Go.Proofs.Ytdhopagmbbflkaa
