/-
  DERIVED. GIVEN WITH THE SEED: THE CARDS: each row of YteklfeeamjgplaaDoorRows.lean that lists a variable, with what it lists TIED to the program's text (the seventh form; the later family's looks); each row that meets fmt, with fmt's text TOLD by the authors' own Lean function (tested against real Go, not proved from fmt's source: count such statements apart). THE CARD IS WHAT COUNTS. Prove the row's statement (the work); the ties are given (YteklfeeamjgplaaDoorTie.lean); close each card by the builder's one call (the guide's Derived/Test/ToyasCard.lean, 'card_holds'). Laid BY PROGRAM, IN A SANDBOX (cutbox-door.mjs). By AI agents, Wed Nov 11 2026. No macro, syntax, notation, axiom, sorry.
-/
import Derived.Test.YteklfeeamjgplaaDoorRows
import GoSem.ClaimSeven
namespace Go.Proofs.YteklfeeamjgplaaDoor
namespace Rows

/-- THE TIED CARD OF 'laws.FnExactRegionsText'. -/
def fnExactRegionsTextCard : Claim7 := { stood := { row := fnExactRegionsTextRow, standIns := [], harness := (true, "161caefa07a77810815d81dd1e12fed96a6b1dd43d20e787938abcf5ccd37d64"), looks := true }, kinds := [], alts := [], laidByText := true, laidKinds := [.data, .data, .data], laidTests := true, laidLooks := .later }
def FnExactRegionsTextCardSaid : Prop := Claim7.holds Tryd.pinned (.plain (OpenSpec.ofChange fnExactRegionsTextSpec)) fnExactRegionsTextCard

/-- THE TIED CARD OF 'laws.FnExactReadRegions'. -/
def fnExactReadRegionsCard : Claim7 := { stood := { row := fnExactReadRegionsRow, standIns := [], harness := (true, "161caefa07a77810815d81dd1e12fed96a6b1dd43d20e787938abcf5ccd37d64"), looks := true }, kinds := [], alts := [], laidByText := true, laidKinds := [.data, .data, .data, .data, .sentinel, .sentinel, .pinned], laidTests := true, laidLooks := .later }
def FnExactReadRegionsCardSaid : Prop := Claim7.holds Tryd.pinned (.plain (OpenSpec.ofChange fnExactReadRegionsSpec)) fnExactReadRegionsCard

/-- THE SECOND FORM's CARD OF 'laws.FnExactRegionsText'. -/
def fnExactRegionsTextUptoCard : Claim7 := { stood := { row := fnExactRegionsTextUptoRow, standIns := [], harness := (true, "161caefa07a77810815d81dd1e12fed96a6b1dd43d20e787938abcf5ccd37d64"), looks := true }, kinds := [], alts := [], laidByText := true, laidKinds := [.data, .data, .data], laidTests := true, laidLooks := .later }
def FnExactRegionsTextUptoCardSaid : Prop := Claim7.holds Tryd.pinned (.plain (OpenSpec.upto fnExactRegionsTextSpec)) fnExactRegionsTextUptoCard

/-- THE SECOND FORM's CARD OF 'laws.FnExactReadRegions'. -/
def fnExactReadRegionsUptoCard : Claim7 := { stood := { row := fnExactReadRegionsUptoRow, standIns := [], harness := (true, "161caefa07a77810815d81dd1e12fed96a6b1dd43d20e787938abcf5ccd37d64"), looks := true }, kinds := [], alts := [], laidByText := true, laidKinds := [.data, .data, .data, .data, .sentinel, .sentinel, .pinned], laidTests := true, laidLooks := .later }
def FnExactReadRegionsUptoCardSaid : Prop := Claim7.holds Tryd.pinned (.plain (OpenSpec.upto fnExactReadRegionsSpec)) fnExactReadRegionsUptoCard
end Rows
end Go.Proofs.YteklfeeamjgplaaDoor
