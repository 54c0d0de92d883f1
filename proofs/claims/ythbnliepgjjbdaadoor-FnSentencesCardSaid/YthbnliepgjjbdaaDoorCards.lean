/-
  DERIVED. GIVEN WITH THE SEED: THE CARDS: each row of YthbnliepgjjbdaaDoorRows.lean that lists a variable, with what it lists TIED to the program's text (the seventh form; the later family's looks); each row that meets fmt, with fmt's text TOLD by the authors' own Lean function (tested against real Go, not proved from fmt's source: count such statements apart). THE CARD IS WHAT COUNTS. Prove the row's statement (the work); the ties are given (YthbnliepgjjbdaaDoorTie.lean); close each card by the builder's one call (the guide's Derived/Test/ToyasCard.lean, 'card_holds'). Laid BY PROGRAM, IN A SANDBOX (cutbox-door.mjs). By AI agents, Wed Nov 11 2026. No macro, syntax, notation, axiom, sorry.
-/
import Derived.Test.YthbnliepgjjbdaaDoorRows
import GoSem.ClaimSeven
namespace Go.Proofs.YthbnliepgjjbdaaDoor
namespace Rows

/-- THE TIED CARD OF 'laws.FnExactSentenceText'. -/
def fnExactSentenceTextCard : Claim7 := { stood := { row := fnExactSentenceTextRow, standIns := [], harness := (true, "4b4f830dabd015f09d642b281cc26d81849b4f7895b2532f6e712b6e89b92e32"), looks := true }, kinds := [], alts := [], laidByText := true, laidKinds := [.data, .data, .data, .data, .pinned], laidTests := true, laidLooks := .later }
def FnExactSentenceTextCardSaid : Prop := Claim7.holds Tryd.pinned (.plain (OpenSpec.ofChange fnExactSentenceTextSpec)) fnExactSentenceTextCard

/-- THE TIED CARD OF 'laws.FnExactBulletinText'. -/
def fnExactBulletinTextCard : Claim7 := { stood := { row := fnExactBulletinTextRow, standIns := [], harness := (true, "4b4f830dabd015f09d642b281cc26d81849b4f7895b2532f6e712b6e89b92e32"), looks := true }, kinds := [], alts := [], laidByText := true, laidKinds := [.data, .data, .data, .data, .pinned], laidTests := true, laidLooks := .later }
def FnExactBulletinTextCardSaid : Prop := Claim7.holds Tryd.pinned (.plain (OpenSpec.ofChange fnExactBulletinTextSpec)) fnExactBulletinTextCard

/-- THE TIED CARD OF 'laws.FnSentences'. -/
def fnSentencesCard : Claim7 := { stood := { row := fnSentencesRow, standIns := [], harness := (true, "4b4f830dabd015f09d642b281cc26d81849b4f7895b2532f6e712b6e89b92e32"), looks := true }, kinds := [], alts := [], laidByText := true, laidKinds := [.data, .data, .data, .data, .sentinel, .sentinel, .pinned], laidTests := true, laidLooks := .later }
def FnSentencesCardSaid : Prop := Claim7.holds Tryd.pinned (.plain (OpenSpec.ofChange fnSentencesSpec)) fnSentencesCard

/-- THE TIED CARD OF 'laws.FnExactTranslateText'. -/
def fnExactTranslateTextCard : Claim7 := { stood := { row := fnExactTranslateTextRow, standIns := [], harness := (true, "4b4f830dabd015f09d642b281cc26d81849b4f7895b2532f6e712b6e89b92e32"), looks := true }, kinds := [], alts := [], laidByText := true, laidKinds := [.data, .data, .data, .data, .sentinel, .sentinel, .pinned], laidTests := true, laidLooks := .later }
def FnExactTranslateTextCardSaid : Prop := Claim7.holds Tryd.pinned (.plain (OpenSpec.ofChange fnExactTranslateTextSpec)) fnExactTranslateTextCard

/-- THE TIED CARD OF 'laws.FnExactReadSentence'. -/
def fnExactReadSentenceCard : Claim7 := { stood := { row := fnExactReadSentenceRow, standIns := [], harness := (true, "4b4f830dabd015f09d642b281cc26d81849b4f7895b2532f6e712b6e89b92e32"), looks := true }, kinds := [], alts := [], laidByText := true, laidKinds := [.data, .data, .data, .data, .sentinel, .sentinel, .pinned], laidTests := true, laidLooks := .later }
def FnExactReadSentenceCardSaid : Prop := Claim7.holds Tryd.pinned (.plain (OpenSpec.ofChange fnExactReadSentenceSpec)) fnExactReadSentenceCard

/-- THE TIED CARD OF 'laws.FnExactSameMeaning'. -/
def fnExactSameMeaningCard : Claim7 := { stood := { row := fnExactSameMeaningRow, standIns := [], harness := (true, "4b4f830dabd015f09d642b281cc26d81849b4f7895b2532f6e712b6e89b92e32"), looks := true }, kinds := [], alts := [], laidByText := true, laidKinds := [.data, .data, .data, .data, .sentinel, .sentinel, .pinned], laidTests := true, laidLooks := .later }
def FnExactSameMeaningCardSaid : Prop := Claim7.holds Tryd.pinned (.plain (OpenSpec.ofChange fnExactSameMeaningSpec)) fnExactSameMeaningCard

/-- THE TIED CARD OF 'laws.FnExactReadBulletin'. -/
def fnExactReadBulletinCard : Claim7 := { stood := { row := fnExactReadBulletinRow, standIns := [], harness := (true, "4b4f830dabd015f09d642b281cc26d81849b4f7895b2532f6e712b6e89b92e32"), looks := true }, kinds := [], alts := [], laidByText := true, laidKinds := [.data, .data, .data, .data, .sentinel, .sentinel, .pinned], laidTests := true, laidLooks := .later }
def FnExactReadBulletinCardSaid : Prop := Claim7.holds Tryd.pinned (.plain (OpenSpec.ofChange fnExactReadBulletinSpec)) fnExactReadBulletinCard

/-- THE SECOND FORM's CARD OF 'laws.FnExactSentenceText'. -/
def fnExactSentenceTextUptoCard : Claim7 := { stood := { row := fnExactSentenceTextUptoRow, standIns := [], harness := (true, "4b4f830dabd015f09d642b281cc26d81849b4f7895b2532f6e712b6e89b92e32"), looks := true }, kinds := [], alts := [], laidByText := true, laidKinds := [.data, .data, .data, .data, .pinned], laidTests := true, laidLooks := .later }
def FnExactSentenceTextUptoCardSaid : Prop := Claim7.holds Tryd.pinned (.plain (OpenSpec.upto fnExactSentenceTextSpec)) fnExactSentenceTextUptoCard

/-- THE SECOND FORM's CARD OF 'laws.FnExactBulletinText'. -/
def fnExactBulletinTextUptoCard : Claim7 := { stood := { row := fnExactBulletinTextUptoRow, standIns := [], harness := (true, "4b4f830dabd015f09d642b281cc26d81849b4f7895b2532f6e712b6e89b92e32"), looks := true }, kinds := [], alts := [], laidByText := true, laidKinds := [.data, .data, .data, .data, .pinned], laidTests := true, laidLooks := .later }
def FnExactBulletinTextUptoCardSaid : Prop := Claim7.holds Tryd.pinned (.plain (OpenSpec.upto fnExactBulletinTextSpec)) fnExactBulletinTextUptoCard

/-- THE SECOND FORM's CARD OF 'laws.FnSentences'. -/
def fnSentencesUptoCard : Claim7 := { stood := { row := fnSentencesUptoRow, standIns := [], harness := (true, "4b4f830dabd015f09d642b281cc26d81849b4f7895b2532f6e712b6e89b92e32"), looks := true }, kinds := [], alts := [], laidByText := true, laidKinds := [.data, .data, .data, .data, .sentinel, .sentinel, .pinned], laidTests := true, laidLooks := .later }
def FnSentencesUptoCardSaid : Prop := Claim7.holds Tryd.pinned (.plain (OpenSpec.upto fnSentencesSpec)) fnSentencesUptoCard

/-- THE SECOND FORM's CARD OF 'laws.FnExactTranslateText'. -/
def fnExactTranslateTextUptoCard : Claim7 := { stood := { row := fnExactTranslateTextUptoRow, standIns := [], harness := (true, "4b4f830dabd015f09d642b281cc26d81849b4f7895b2532f6e712b6e89b92e32"), looks := true }, kinds := [], alts := [], laidByText := true, laidKinds := [.data, .data, .data, .data, .sentinel, .sentinel, .pinned], laidTests := true, laidLooks := .later }
def FnExactTranslateTextUptoCardSaid : Prop := Claim7.holds Tryd.pinned (.plain (OpenSpec.upto fnExactTranslateTextSpec)) fnExactTranslateTextUptoCard

/-- THE SECOND FORM's CARD OF 'laws.FnExactReadSentence'. -/
def fnExactReadSentenceUptoCard : Claim7 := { stood := { row := fnExactReadSentenceUptoRow, standIns := [], harness := (true, "4b4f830dabd015f09d642b281cc26d81849b4f7895b2532f6e712b6e89b92e32"), looks := true }, kinds := [], alts := [], laidByText := true, laidKinds := [.data, .data, .data, .data, .sentinel, .sentinel, .pinned], laidTests := true, laidLooks := .later }
def FnExactReadSentenceUptoCardSaid : Prop := Claim7.holds Tryd.pinned (.plain (OpenSpec.upto fnExactReadSentenceSpec)) fnExactReadSentenceUptoCard

/-- THE SECOND FORM's CARD OF 'laws.FnExactSameMeaning'. -/
def fnExactSameMeaningUptoCard : Claim7 := { stood := { row := fnExactSameMeaningUptoRow, standIns := [], harness := (true, "4b4f830dabd015f09d642b281cc26d81849b4f7895b2532f6e712b6e89b92e32"), looks := true }, kinds := [], alts := [], laidByText := true, laidKinds := [.data, .data, .data, .data, .sentinel, .sentinel, .pinned], laidTests := true, laidLooks := .later }
def FnExactSameMeaningUptoCardSaid : Prop := Claim7.holds Tryd.pinned (.plain (OpenSpec.upto fnExactSameMeaningSpec)) fnExactSameMeaningUptoCard

/-- THE SECOND FORM's CARD OF 'laws.FnExactReadBulletin'. -/
def fnExactReadBulletinUptoCard : Claim7 := { stood := { row := fnExactReadBulletinUptoRow, standIns := [], harness := (true, "4b4f830dabd015f09d642b281cc26d81849b4f7895b2532f6e712b6e89b92e32"), looks := true }, kinds := [], alts := [], laidByText := true, laidKinds := [.data, .data, .data, .data, .sentinel, .sentinel, .pinned], laidTests := true, laidLooks := .later }
def FnExactReadBulletinUptoCardSaid : Prop := Claim7.holds Tryd.pinned (.plain (OpenSpec.upto fnExactReadBulletinSpec)) fnExactReadBulletinUptoCard
end Rows
end Go.Proofs.YthbnliepgjjbdaaDoor
