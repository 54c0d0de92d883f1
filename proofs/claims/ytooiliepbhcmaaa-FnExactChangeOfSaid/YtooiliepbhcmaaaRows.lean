/-
  No cell of these rows narrows 'for every input' (looked for: loops, veiled, ifaces, maps, wideKeys, modest, calm, conditions, laid).
  DERIVED. THE GIVEN ROWS OF THIS SEAT. 7 by the template 'for every input the law returns true; each argument reads behind the call as it read before'; 0 by the template 'total and deterministic' (their statements: YtooiliepbhcmaaaTotals.lean).
  GIVEN WITH THE SEED: the statements are not yours to turn. If you find one false, say at which input.
  Laid BY PROGRAM, IN A SANDBOX (cutbox-rows.mjs): the forced cells as the released guide's own fill.sh prints them over the translation a2a6fff61d2e1654… (all of the seat's roots in one cut). By AI agents, Wed Nov 11 2026. No macro, syntax, notation, axiom, sorry.
-/
import Derived.Test.YtooiliepbhcmaaaChecked
import GoSem.Claim
import GoSem.ClaimJoined
import GoSem.ClaimMapViews
import Derived.JoinedTies
import Derived.KernelRfl
namespace Go.Proofs.Ytooiliepbhcmaaa
/- THE CELL 'sum', in the pinned program and in every row, IS THE sha256 OF THE DUMP (.gsa) THAT YtooiliepbhcmaaaProg.lean LOADS. Nothing in Lean hashes anything: it is a label: what it is worth is what the hold of that sum in a sandbox is worth. -/
noncomputable def Try.pinned : Pinned := { name := "ytooiliepbhcmaaa", sum := "a2a6fff61d2e16548959a003a26bd9c2f009512eda931b5971ff28d4fa86dda3", checked := Try.checked }
namespace Rows
def none {H : Type} : Left H := { results := [], args := [] }

/-- 'laws.FnExactLanguageName': WHATEVER THE INPUT: true; the input reads as it did. -/
def fnExactLanguageNameSpec : ChangeSpec := { name := "fnExactLanguageName", fn := fun _ => fun
  | [d] => { results := [.lit (.bool true)], args := [d] }
  | _ => none }
def fnExactLanguageNameRow : OpenClaim := { program := "ytooiliepbhcmaaa", sum := "a2a6fff61d2e16548959a003a26bd9c2f009512eda931b5971ff28d4fa86dda3", func := "loop.example/g01013/laws.FnExactLanguageName", spec := "fnExactLanguageName", apart := false }
def FnExactLanguageNameSaid : Prop := fnExactLanguageNameRow.holds Try.pinned (OpenSpec.ofChange fnExactLanguageNameSpec)

/-- ITS FALSE NEIGHBOUR: 'it returns false'. Refute it at one input. -/
def fnExactLanguageNameWrong : ChangeSpec := { name := "fnExactLanguageName", fn := fun _ => fun
  | [d] => { results := [.lit (.bool false)], args := [d] }
  | _ => none }
def FnExactLanguageNameWrongFalsely : Prop := fnExactLanguageNameRow.holds Try.pinned (OpenSpec.ofChange fnExactLanguageNameWrong)

/-- 'laws.FnExactLevelName': WHATEVER THE INPUT: true; the input reads as it did. -/
def fnExactLevelNameSpec : ChangeSpec := { name := "fnExactLevelName", fn := fun _ => fun
  | [d] => { results := [.lit (.bool true)], args := [d] }
  | _ => none }
def fnExactLevelNameRow : OpenClaim := { program := "ytooiliepbhcmaaa", sum := "a2a6fff61d2e16548959a003a26bd9c2f009512eda931b5971ff28d4fa86dda3", func := "loop.example/g01013/laws.FnExactLevelName", spec := "fnExactLevelName", apart := false }
def FnExactLevelNameSaid : Prop := fnExactLevelNameRow.holds Try.pinned (OpenSpec.ofChange fnExactLevelNameSpec)

/-- ITS FALSE NEIGHBOUR: 'it returns false'. Refute it at one input. -/
def fnExactLevelNameWrong : ChangeSpec := { name := "fnExactLevelName", fn := fun _ => fun
  | [d] => { results := [.lit (.bool false)], args := [d] }
  | _ => none }
def FnExactLevelNameWrongFalsely : Prop := fnExactLevelNameRow.holds Try.pinned (OpenSpec.ofChange fnExactLevelNameWrong)

/-- 'laws.FnExactSizeOf': WHATEVER THE INPUT: true; the input reads as it did. -/
def fnExactSizeOfSpec : ChangeSpec := { name := "fnExactSizeOf", fn := fun _ => fun
  | [d] => { results := [.lit (.bool true)], args := [d] }
  | _ => none }
def fnExactSizeOfRow : OpenClaim := { program := "ytooiliepbhcmaaa", sum := "a2a6fff61d2e16548959a003a26bd9c2f009512eda931b5971ff28d4fa86dda3", func := "loop.example/g01013/laws.FnExactSizeOf", spec := "fnExactSizeOf", apart := false }
def FnExactSizeOfSaid : Prop := fnExactSizeOfRow.holds Try.pinned (OpenSpec.ofChange fnExactSizeOfSpec)

/-- ITS FALSE NEIGHBOUR: 'it returns false'. Refute it at one input. -/
def fnExactSizeOfWrong : ChangeSpec := { name := "fnExactSizeOf", fn := fun _ => fun
  | [d] => { results := [.lit (.bool false)], args := [d] }
  | _ => none }
def FnExactSizeOfWrongFalsely : Prop := fnExactSizeOfRow.holds Try.pinned (OpenSpec.ofChange fnExactSizeOfWrong)

/-- 'laws.FnExactExtentOf': WHATEVER THE INPUT: true; the input reads as it did. -/
def fnExactExtentOfSpec : ChangeSpec := { name := "fnExactExtentOf", fn := fun _ => fun
  | [d1, d2] => { results := [.lit (.bool true)], args := [d1, d2] }
  | _ => none }
def fnExactExtentOfRow : OpenClaim := { program := "ytooiliepbhcmaaa", sum := "a2a6fff61d2e16548959a003a26bd9c2f009512eda931b5971ff28d4fa86dda3", func := "loop.example/g01013/laws.FnExactExtentOf", spec := "fnExactExtentOf", apart := false }
def FnExactExtentOfSaid : Prop := fnExactExtentOfRow.holds Try.pinned (OpenSpec.ofChange fnExactExtentOfSpec)

/-- ITS FALSE NEIGHBOUR: 'it returns false'. Refute it at one input. -/
def fnExactExtentOfWrong : ChangeSpec := { name := "fnExactExtentOf", fn := fun _ => fun
  | [d1, d2] => { results := [.lit (.bool false)], args := [d1, d2] }
  | _ => none }
def FnExactExtentOfWrongFalsely : Prop := fnExactExtentOfRow.holds Try.pinned (OpenSpec.ofChange fnExactExtentOfWrong)

/-- 'laws.FnExactDangerLevel': WHATEVER THE INPUT: true; the input reads as it did. -/
def fnExactDangerLevelSpec : ChangeSpec := { name := "fnExactDangerLevel", fn := fun _ => fun
  | [d1, d2, d3] => { results := [.lit (.bool true)], args := [d1, d2, d3] }
  | _ => none }
def fnExactDangerLevelRow : OpenClaim := { program := "ytooiliepbhcmaaa", sum := "a2a6fff61d2e16548959a003a26bd9c2f009512eda931b5971ff28d4fa86dda3", func := "loop.example/g01013/laws.FnExactDangerLevel", spec := "fnExactDangerLevel", apart := false }
def FnExactDangerLevelSaid : Prop := fnExactDangerLevelRow.holds Try.pinned (OpenSpec.ofChange fnExactDangerLevelSpec)

/-- ITS FALSE NEIGHBOUR: 'it returns false'. Refute it at one input. -/
def fnExactDangerLevelWrong : ChangeSpec := { name := "fnExactDangerLevel", fn := fun _ => fun
  | [d1, d2, d3] => { results := [.lit (.bool false)], args := [d1, d2, d3] }
  | _ => none }
def FnExactDangerLevelWrongFalsely : Prop := fnExactDangerLevelRow.holds Try.pinned (OpenSpec.ofChange fnExactDangerLevelWrong)

/-- 'laws.FnExactLikelihoodOf': WHATEVER THE INPUT: true; the input reads as it did. -/
def fnExactLikelihoodOfSpec : ChangeSpec := { name := "fnExactLikelihoodOf", fn := fun _ => fun
  | [d1, d2] => { results := [.lit (.bool true)], args := [d1, d2] }
  | _ => none }
def fnExactLikelihoodOfRow : OpenClaim := { program := "ytooiliepbhcmaaa", sum := "a2a6fff61d2e16548959a003a26bd9c2f009512eda931b5971ff28d4fa86dda3", func := "loop.example/g01013/laws.FnExactLikelihoodOf", spec := "fnExactLikelihoodOf", apart := false }
def FnExactLikelihoodOfSaid : Prop := fnExactLikelihoodOfRow.holds Try.pinned (OpenSpec.ofChange fnExactLikelihoodOfSpec)

/-- ITS FALSE NEIGHBOUR: 'it returns false'. Refute it at one input. -/
def fnExactLikelihoodOfWrong : ChangeSpec := { name := "fnExactLikelihoodOf", fn := fun _ => fun
  | [d1, d2] => { results := [.lit (.bool false)], args := [d1, d2] }
  | _ => none }
def FnExactLikelihoodOfWrongFalsely : Prop := fnExactLikelihoodOfRow.holds Try.pinned (OpenSpec.ofChange fnExactLikelihoodOfWrong)

/-- 'laws.FnExactChangeOf': WHATEVER THE INPUT: true; the input reads as it did. -/
def fnExactChangeOfSpec : ChangeSpec := { name := "fnExactChangeOf", fn := fun _ => fun
  | [d1, d2] => { results := [.lit (.bool true)], args := [d1, d2] }
  | _ => none }
def fnExactChangeOfRow : OpenClaim := { program := "ytooiliepbhcmaaa", sum := "a2a6fff61d2e16548959a003a26bd9c2f009512eda931b5971ff28d4fa86dda3", func := "loop.example/g01013/laws.FnExactChangeOf", spec := "fnExactChangeOf", apart := false }
def FnExactChangeOfSaid : Prop := fnExactChangeOfRow.holds Try.pinned (OpenSpec.ofChange fnExactChangeOfSpec)

/-- ITS FALSE NEIGHBOUR: 'it returns false'. Refute it at one input. -/
def fnExactChangeOfWrong : ChangeSpec := { name := "fnExactChangeOf", fn := fun _ => fun
  | [d1, d2] => { results := [.lit (.bool false)], args := [d1, d2] }
  | _ => none }
def FnExactChangeOfWrongFalsely : Prop := fnExactChangeOfRow.holds Try.pinned (OpenSpec.ofChange fnExactChangeOfWrong)

/- THE SECOND FORM. 'bulk': how many values and letters a reading holds, each counted each time it is reached (what is shared counts as often as it is met; a slice's spare places count too). A statement '..UptoSaid' is the law's where the arguments, and the package variables that the reading takes, are together of bulk at most 1048576: NARROWER than '..Said'. Prove '..Said' where nothing that the law and all that it calls make is longer than what came in: it says more and counts as full. Else prove '..UptoSaid'. A law counts once. -/
mutual
def uptoBulk {H : Type} : DataW H → Nat
  | .lit (.string bytes) => bytes.length + 1
  | .lit _ => 1
  | .nil => 1
  | .ptr d => uptoBulk d + 1
  | .slice elems spare => uptoBulkAll elems + uptoBulkAll spare + 1
  | .agg parts => uptoBulkAll parts + 1
  | .iface _ d => uptoBulk d + 1
  | .map entries => uptoBulkEntries entries + 1
  | .held _ => 1
def uptoBulkAll {H : Type} : List (DataW H) → Nat
  | [] => 0
  | d :: r => uptoBulk d + uptoBulkAll r
def uptoBulkEntries {H : Type} : List (Lit × DataW H) → Nat
  | [] => 0
  | x :: r => uptoBulkEntry x + uptoBulkEntries r
def uptoBulkEntry {H : Type} : Lit × DataW H → Nat
  | (.string bytes, d) => bytes.length + uptoBulk d + 1
  | (_, d) => uptoBulk d + 1
 end
def uptoSmall : (H : Type) → List (DataW H) → Bool := fun _ ds => decide (uptoBulkAll ds ≤ 1048576)
def OpenSpec.upto (s : _root_.Go.ChangeSpec) : _root_.Go.OpenSpec := { _root_.Go.OpenSpec.ofChange s with cond := some uptoSmall }

/-- 'laws.FnExactLanguageName', WHERE WHAT IT READS IS OF BULK AT MOST 1048576: true; the input reads as it did. -/
def fnExactLanguageNameUptoRow : OpenClaim := { program := "ytooiliepbhcmaaa", sum := "a2a6fff61d2e16548959a003a26bd9c2f009512eda931b5971ff28d4fa86dda3", func := "loop.example/g01013/laws.FnExactLanguageName", spec := "fnExactLanguageName", apart := false, narrowed := true }
def FnExactLanguageNameUptoSaid : Prop := fnExactLanguageNameUptoRow.holds Try.pinned (OpenSpec.upto fnExactLanguageNameSpec)

/-- 'laws.FnExactLevelName', WHERE WHAT IT READS IS OF BULK AT MOST 1048576: true; the input reads as it did. -/
def fnExactLevelNameUptoRow : OpenClaim := { program := "ytooiliepbhcmaaa", sum := "a2a6fff61d2e16548959a003a26bd9c2f009512eda931b5971ff28d4fa86dda3", func := "loop.example/g01013/laws.FnExactLevelName", spec := "fnExactLevelName", apart := false, narrowed := true }
def FnExactLevelNameUptoSaid : Prop := fnExactLevelNameUptoRow.holds Try.pinned (OpenSpec.upto fnExactLevelNameSpec)

/-- 'laws.FnExactSizeOf', WHERE WHAT IT READS IS OF BULK AT MOST 1048576: true; the input reads as it did. -/
def fnExactSizeOfUptoRow : OpenClaim := { program := "ytooiliepbhcmaaa", sum := "a2a6fff61d2e16548959a003a26bd9c2f009512eda931b5971ff28d4fa86dda3", func := "loop.example/g01013/laws.FnExactSizeOf", spec := "fnExactSizeOf", apart := false, narrowed := true }
def FnExactSizeOfUptoSaid : Prop := fnExactSizeOfUptoRow.holds Try.pinned (OpenSpec.upto fnExactSizeOfSpec)

/-- 'laws.FnExactExtentOf', WHERE WHAT IT READS IS OF BULK AT MOST 1048576: true; the input reads as it did. -/
def fnExactExtentOfUptoRow : OpenClaim := { program := "ytooiliepbhcmaaa", sum := "a2a6fff61d2e16548959a003a26bd9c2f009512eda931b5971ff28d4fa86dda3", func := "loop.example/g01013/laws.FnExactExtentOf", spec := "fnExactExtentOf", apart := false, narrowed := true }
def FnExactExtentOfUptoSaid : Prop := fnExactExtentOfUptoRow.holds Try.pinned (OpenSpec.upto fnExactExtentOfSpec)

/-- 'laws.FnExactDangerLevel', WHERE WHAT IT READS IS OF BULK AT MOST 1048576: true; the input reads as it did. -/
def fnExactDangerLevelUptoRow : OpenClaim := { program := "ytooiliepbhcmaaa", sum := "a2a6fff61d2e16548959a003a26bd9c2f009512eda931b5971ff28d4fa86dda3", func := "loop.example/g01013/laws.FnExactDangerLevel", spec := "fnExactDangerLevel", apart := false, narrowed := true }
def FnExactDangerLevelUptoSaid : Prop := fnExactDangerLevelUptoRow.holds Try.pinned (OpenSpec.upto fnExactDangerLevelSpec)

/-- 'laws.FnExactLikelihoodOf', WHERE WHAT IT READS IS OF BULK AT MOST 1048576: true; the input reads as it did. -/
def fnExactLikelihoodOfUptoRow : OpenClaim := { program := "ytooiliepbhcmaaa", sum := "a2a6fff61d2e16548959a003a26bd9c2f009512eda931b5971ff28d4fa86dda3", func := "loop.example/g01013/laws.FnExactLikelihoodOf", spec := "fnExactLikelihoodOf", apart := false, narrowed := true }
def FnExactLikelihoodOfUptoSaid : Prop := fnExactLikelihoodOfUptoRow.holds Try.pinned (OpenSpec.upto fnExactLikelihoodOfSpec)

/-- 'laws.FnExactChangeOf', WHERE WHAT IT READS IS OF BULK AT MOST 1048576: true; the input reads as it did. -/
def fnExactChangeOfUptoRow : OpenClaim := { program := "ytooiliepbhcmaaa", sum := "a2a6fff61d2e16548959a003a26bd9c2f009512eda931b5971ff28d4fa86dda3", func := "loop.example/g01013/laws.FnExactChangeOf", spec := "fnExactChangeOf", apart := false, narrowed := true }
def FnExactChangeOfUptoSaid : Prop := fnExactChangeOfUptoRow.holds Try.pinned (OpenSpec.upto fnExactChangeOfSpec)

end Rows
end Go.Proofs.Ytooiliepbhcmaaa
