/-
  No cell of these rows narrows 'for every input' (looked for: loops, veiled, ifaces, maps, wideKeys, modest, calm, conditions, laid).
  DERIVED. THE GIVEN ROWS OF THIS SEAT. 4 by the template 'for every input the law returns true; each argument reads behind the call as it read before'; 0 by the template 'total and deterministic' (their statements: YthbnliepgjjbdaaTotals.lean).
  GIVEN WITH THE SEED: the statements are not yours to turn. If you find one false, say at which input.
  Laid BY PROGRAM, IN A SANDBOX (cutbox-rows.mjs): the forced cells as the released guide's own fill.sh prints them over the translation c89e22fd097118ca… (all of the seat's roots in one cut). By AI agents, Wed Nov 11 2026. No macro, syntax, notation, axiom, sorry.
-/
import Derived.Test.YthbnliepgjjbdaaChecked
import GoSem.Claim
import GoSem.ClaimJoined
import GoSem.ClaimMapViews
import Derived.JoinedTies
import Derived.KernelRfl
namespace Go.Proofs.Ythbnliepgjjbdaa
/- THE CELL 'sum', in the pinned program and in every row, IS THE sha256 OF THE DUMP (.gsa) THAT YthbnliepgjjbdaaProg.lean LOADS. Nothing in Lean hashes anything: it is a label: what it is worth is what the hold of that sum in a sandbox is worth. -/
noncomputable def Try.pinned : Pinned := { name := "ythbnliepgjjbdaa", sum := "c89e22fd097118cafed7a323756e5a39d9b1c357b4949fa907da92580f856d14", checked := Try.checked }
namespace Rows
def none {H : Type} : Left H := { results := [], args := [] }

/-- 'laws.FnExactValidSentence': WHATEVER THE INPUT: true; the input reads as it did. -/
def fnExactValidSentenceSpec : ChangeSpec := { name := "fnExactValidSentence", fn := fun _ => fun
  | [d] => { results := [.lit (.bool true)], args := [d] }
  | _ => none }
def fnExactValidSentenceRow : OpenClaim := { program := "ythbnliepgjjbdaa", sum := "c89e22fd097118cafed7a323756e5a39d9b1c357b4949fa907da92580f856d14", func := "loop.example/g01013/laws.FnExactValidSentence", spec := "fnExactValidSentence", apart := false }
def FnExactValidSentenceSaid : Prop := fnExactValidSentenceRow.holds Try.pinned (OpenSpec.ofChange fnExactValidSentenceSpec)

/-- ITS FALSE NEIGHBOUR: 'it returns false'. Refute it at one input. -/
def fnExactValidSentenceWrong : ChangeSpec := { name := "fnExactValidSentence", fn := fun _ => fun
  | [d] => { results := [.lit (.bool false)], args := [d] }
  | _ => none }
def FnExactValidSentenceWrongFalsely : Prop := fnExactValidSentenceRow.holds Try.pinned (OpenSpec.ofChange fnExactValidSentenceWrong)

/-- 'laws.FnExactValidBulletin': WHATEVER THE INPUT: true; the input reads as it did. -/
def fnExactValidBulletinSpec : ChangeSpec := { name := "fnExactValidBulletin", fn := fun _ => fun
  | [d] => { results := [.lit (.bool true)], args := [d] }
  | _ => none }
def fnExactValidBulletinRow : OpenClaim := { program := "ythbnliepgjjbdaa", sum := "c89e22fd097118cafed7a323756e5a39d9b1c357b4949fa907da92580f856d14", func := "loop.example/g01013/laws.FnExactValidBulletin", spec := "fnExactValidBulletin", apart := false }
def FnExactValidBulletinSaid : Prop := fnExactValidBulletinRow.holds Try.pinned (OpenSpec.ofChange fnExactValidBulletinSpec)

/-- ITS FALSE NEIGHBOUR: 'it returns false'. Refute it at one input. -/
def fnExactValidBulletinWrong : ChangeSpec := { name := "fnExactValidBulletin", fn := fun _ => fun
  | [d] => { results := [.lit (.bool false)], args := [d] }
  | _ => none }
def FnExactValidBulletinWrongFalsely : Prop := fnExactValidBulletinRow.holds Try.pinned (OpenSpec.ofChange fnExactValidBulletinWrong)

/-- 'laws.FnExactComposeBulletin': WHATEVER THE INPUT: true; the input reads as it did. -/
def fnExactComposeBulletinSpec : ChangeSpec := { name := "fnExactComposeBulletin", fn := fun _ => fun
  | [d1, d2, d3, d4, d5] => { results := [.lit (.bool true)], args := [d1, d2, d3, d4, d5] }
  | _ => none }
def fnExactComposeBulletinRow : OpenClaim := { program := "ythbnliepgjjbdaa", sum := "c89e22fd097118cafed7a323756e5a39d9b1c357b4949fa907da92580f856d14", func := "loop.example/g01013/laws.FnExactComposeBulletin", spec := "fnExactComposeBulletin", apart := false }
def FnExactComposeBulletinSaid : Prop := fnExactComposeBulletinRow.holds Try.pinned (OpenSpec.ofChange fnExactComposeBulletinSpec)

/-- ITS FALSE NEIGHBOUR: 'it returns false'. Refute it at one input. -/
def fnExactComposeBulletinWrong : ChangeSpec := { name := "fnExactComposeBulletin", fn := fun _ => fun
  | [d1, d2, d3, d4, d5] => { results := [.lit (.bool false)], args := [d1, d2, d3, d4, d5] }
  | _ => none }
def FnExactComposeBulletinWrongFalsely : Prop := fnExactComposeBulletinRow.holds Try.pinned (OpenSpec.ofChange fnExactComposeBulletinWrong)

/-- 'laws.FnExactMeaningOf': WHATEVER THE INPUT: true; the input reads as it did. -/
def fnExactMeaningOfSpec : ChangeSpec := { name := "fnExactMeaningOf", fn := fun _ => fun
  | [d1, d2] => { results := [.lit (.bool true)], args := [d1, d2] }
  | _ => none }
def fnExactMeaningOfRow : OpenClaim := { program := "ythbnliepgjjbdaa", sum := "c89e22fd097118cafed7a323756e5a39d9b1c357b4949fa907da92580f856d14", func := "loop.example/g01013/laws.FnExactMeaningOf", spec := "fnExactMeaningOf", apart := false }
def FnExactMeaningOfSaid : Prop := fnExactMeaningOfRow.holds Try.pinned (OpenSpec.ofChange fnExactMeaningOfSpec)

/-- ITS FALSE NEIGHBOUR: 'it returns false'. Refute it at one input. -/
def fnExactMeaningOfWrong : ChangeSpec := { name := "fnExactMeaningOf", fn := fun _ => fun
  | [d1, d2] => { results := [.lit (.bool false)], args := [d1, d2] }
  | _ => none }
def FnExactMeaningOfWrongFalsely : Prop := fnExactMeaningOfRow.holds Try.pinned (OpenSpec.ofChange fnExactMeaningOfWrong)

/- THE SECOND FORM. 'bulk': how many values and letters a reading holds, each counted each time it is reached (what is shared counts as often as it is met; a slice's spare places count too). A statement '..UptoSaid' is the law's where the arguments, and the package variables that the reading takes, are together of bulk at most 1048576: NARROWER than '..Said'. Prove '..Said' where nothing that the law and all that it calls make is longer than what came in: it says more and counts as full. Else prove '..UptoSaid'. A law counts once. -/
mutual
def uptoBulk {H : Type} : DataW H → Nat
  | .lit (.string bytes) => bytes.length + 1
  | .lit _ => 1
  | .nil => 1
  | .ptr d => uptoBulk d + 1
  | .slice elems spare => uptoBulkAll elems + uptoBulkAll spare + 1
  | .agg parts => uptoBulkAll parts + 1
  | .iface _ d => uptoBulk d + 1
  | .map entries => uptoBulkEntries entries + 1
  | .held _ => 1
def uptoBulkAll {H : Type} : List (DataW H) → Nat
  | [] => 0
  | d :: r => uptoBulk d + uptoBulkAll r
def uptoBulkEntries {H : Type} : List (Lit × DataW H) → Nat
  | [] => 0
  | x :: r => uptoBulkEntry x + uptoBulkEntries r
def uptoBulkEntry {H : Type} : Lit × DataW H → Nat
  | (.string bytes, d) => bytes.length + uptoBulk d + 1
  | (_, d) => uptoBulk d + 1
 end
def uptoSmall : (H : Type) → List (DataW H) → Bool := fun _ ds => decide (uptoBulkAll ds ≤ 1048576)
def OpenSpec.upto (s : _root_.Go.ChangeSpec) : _root_.Go.OpenSpec := { _root_.Go.OpenSpec.ofChange s with cond := some uptoSmall }

/-- 'laws.FnExactValidSentence', WHERE WHAT IT READS IS OF BULK AT MOST 1048576: true; the input reads as it did. -/
def fnExactValidSentenceUptoRow : OpenClaim := { program := "ythbnliepgjjbdaa", sum := "c89e22fd097118cafed7a323756e5a39d9b1c357b4949fa907da92580f856d14", func := "loop.example/g01013/laws.FnExactValidSentence", spec := "fnExactValidSentence", apart := false, narrowed := true }
def FnExactValidSentenceUptoSaid : Prop := fnExactValidSentenceUptoRow.holds Try.pinned (OpenSpec.upto fnExactValidSentenceSpec)

/-- 'laws.FnExactValidBulletin', WHERE WHAT IT READS IS OF BULK AT MOST 1048576: true; the input reads as it did. -/
def fnExactValidBulletinUptoRow : OpenClaim := { program := "ythbnliepgjjbdaa", sum := "c89e22fd097118cafed7a323756e5a39d9b1c357b4949fa907da92580f856d14", func := "loop.example/g01013/laws.FnExactValidBulletin", spec := "fnExactValidBulletin", apart := false, narrowed := true }
def FnExactValidBulletinUptoSaid : Prop := fnExactValidBulletinUptoRow.holds Try.pinned (OpenSpec.upto fnExactValidBulletinSpec)

/-- 'laws.FnExactComposeBulletin', WHERE WHAT IT READS IS OF BULK AT MOST 1048576: true; the input reads as it did. -/
def fnExactComposeBulletinUptoRow : OpenClaim := { program := "ythbnliepgjjbdaa", sum := "c89e22fd097118cafed7a323756e5a39d9b1c357b4949fa907da92580f856d14", func := "loop.example/g01013/laws.FnExactComposeBulletin", spec := "fnExactComposeBulletin", apart := false, narrowed := true }
def FnExactComposeBulletinUptoSaid : Prop := fnExactComposeBulletinUptoRow.holds Try.pinned (OpenSpec.upto fnExactComposeBulletinSpec)

/-- 'laws.FnExactMeaningOf', WHERE WHAT IT READS IS OF BULK AT MOST 1048576: true; the input reads as it did. -/
def fnExactMeaningOfUptoRow : OpenClaim := { program := "ythbnliepgjjbdaa", sum := "c89e22fd097118cafed7a323756e5a39d9b1c357b4949fa907da92580f856d14", func := "loop.example/g01013/laws.FnExactMeaningOf", spec := "fnExactMeaningOf", apart := false, narrowed := true }
def FnExactMeaningOfUptoSaid : Prop := fnExactMeaningOfUptoRow.holds Try.pinned (OpenSpec.upto fnExactMeaningOfSpec)

end Rows
end Go.Proofs.Ythbnliepgjjbdaa
