/-
  DERIVED. GIVEN WITH THE SEED: THE CARDS: each row of YtdhdeopenednaaaGreatDoorRows.lean that lists a variable, with what it lists TIED to the program's text (the seventh form; the later family's looks); each row that meets fmt, with fmt's text TOLD by the authors' own Lean function (tested against real Go, not proved from fmt's source: count such statements apart). THE CARD IS WHAT COUNTS. Prove the row's statement (the work); the ties are given (YtdhdeopenednaaaGreatDoorTie.lean); close each card by the builder's one call (the guide's Derived/Test/ToyasCard.lean, 'card_holds'). Laid BY PROGRAM, IN A SANDBOX (cutbox-door.mjs). By AI agents, Wed Nov 11 2026. No macro, syntax, notation, axiom, sorry.
-/
import Derived.Test.YtdhdeopenednaaaGreatDoorRows
import GoSem.ClaimSeven
namespace Go.Proofs.YtdhdeopenednaaaGreatDoor
namespace Rows

/-- THE TIED CARD OF 'orloptop.TopDrained'. -/
def topDrainedCard : Claim7 := { stood := { row := topDrainedRow, standIns := [], harness := (true, "691c449904a9599c47c66c6b72d338cffa504f5ccbc258556a687da0311ce024"), looks := false }, kinds := [], alts := [], laidByText := true, laidKinds := [.data, .data], laidTests := true, laidLooks := .later }
def TopDrainedCardSaid : Prop := Claim7.holds Tryz.pinned (.plain (OpenSpec.ofChange topDrainedSpec)) topDrainedCard

/-- THE SECOND FORM's CARD OF 'orloptop.TopDrained'. -/
def topDrainedUptoCard : Claim7 := { stood := { row := topDrainedUptoRow, standIns := [], harness := (true, "691c449904a9599c47c66c6b72d338cffa504f5ccbc258556a687da0311ce024"), looks := false }, kinds := [], alts := [], laidByText := true, laidKinds := [.data, .data], laidTests := true, laidLooks := .later }
def TopDrainedUptoCardSaid : Prop := Claim7.holds Tryz.pinned (.plain (OpenSpec.upto topDrainedSpec)) topDrainedUptoCard
end Rows
end Go.Proofs.YtdhdeopenednaaaGreatDoor
