/-
  DERIVED. GIVEN WITH THE SEED: THE CARDS: each row of YtjmnhmghpikknaaDoorRows.lean that lists a variable, with what it lists TIED to the program's text (the seventh form; the later family's looks); each row that meets fmt, with fmt's text TOLD by the authors' own Lean function (tested against real Go, not proved from fmt's source: count such statements apart). THE CARD IS WHAT COUNTS. Prove the row's statement (the work); the ties are given (YtjmnhmghpikknaaDoorTie.lean); close each card by the builder's one call (the guide's Derived/Test/ToyasCard.lean, 'card_holds'). Laid BY PROGRAM, IN A SANDBOX (cutbox-door.mjs). By AI agents, Wed Nov 11 2026. No macro, syntax, notation, axiom, sorry.
-/
import Derived.Test.YtjmnhmghpikknaaDoorRows
import GoSem.ClaimSeven
namespace Go.Proofs.YtjmnhmghpikknaaDoor
namespace Rows

/-- THE TIED CARD OF 'laws.FnZones'. -/
def fnZonesCard : Claim7 := { stood := { row := fnZonesRow, standIns := [], harness := (true, "a7fa4db6faf61f0a1662e4b894b4c8d65901b5290eb69825ff7b174d18abba93"), looks := false }, kinds := [], alts := [], laidByText := true, laidKinds := [.data, .pinned], laidTests := true, laidLooks := .later }
def FnZonesCardSaid : Prop := Claim7.holds Tryd.pinned (.plain (OpenSpec.ofChange fnZonesSpec)) fnZonesCard

/-- THE SECOND FORM's CARD OF 'laws.FnZones'. -/
def fnZonesUptoCard : Claim7 := { stood := { row := fnZonesUptoRow, standIns := [], harness := (true, "a7fa4db6faf61f0a1662e4b894b4c8d65901b5290eb69825ff7b174d18abba93"), looks := false }, kinds := [], alts := [], laidByText := true, laidKinds := [.data, .pinned], laidTests := true, laidLooks := .later }
def FnZonesUptoCardSaid : Prop := Claim7.holds Tryd.pinned (.plain (OpenSpec.upto fnZonesSpec)) fnZonesUptoCard
end Rows
end Go.Proofs.YtjmnhmghpikknaaDoor
