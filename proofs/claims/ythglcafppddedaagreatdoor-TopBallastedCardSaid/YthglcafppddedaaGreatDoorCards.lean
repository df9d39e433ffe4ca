/-
  DERIVED. GIVEN WITH THE SEED: THE CARDS: each row of YthglcafppddedaaGreatDoorRows.lean that lists a variable, with what it lists TIED to the program's text (the seventh form; the later family's looks); each row that meets fmt, with fmt's text TOLD by the authors' own Lean function (tested against real Go, not proved from fmt's source: count such statements apart). THE CARD IS WHAT COUNTS. Prove the row's statement (the work); the ties are given (YthglcafppddedaaGreatDoorTie.lean); close each card by the builder's one call (the guide's Derived/Test/ToyasCard.lean, 'card_holds'). Laid BY PROGRAM, IN A SANDBOX (cutbox-door.mjs). By AI agents, Wed Nov 11 2026. No macro, syntax, notation, axiom, sorry.
-/
import Derived.Test.YthglcafppddedaaGreatDoorRows
import GoSem.ClaimSeven
namespace Go.Proofs.YthglcafppddedaaGreatDoor
namespace Rows

/-- THE TIED CARD OF 'orloptop.TopBallasted'. -/
def topBallastedCard : Claim7 := { stood := { row := topBallastedRow, standIns := [], harness := (true, "3b4dfb221b6981bae606a5014b46629c2e08768c48f6b138cec201108071c00e"), looks := true }, kinds := [], alts := [], laidByText := true, laidKinds := [.data, .data, .data, .data, .sentinel, .sentinel, .pinned], laidTests := true, laidLooks := .later }
def TopBallastedCardSaid : Prop := Claim7.holds Tryz.pinned (.plain (OpenSpec.ofChange topBallastedSpec)) topBallastedCard

/-- THE SECOND FORM's CARD OF 'orloptop.TopBallasted'. -/
def topBallastedUptoCard : Claim7 := { stood := { row := topBallastedUptoRow, standIns := [], harness := (true, "3b4dfb221b6981bae606a5014b46629c2e08768c48f6b138cec201108071c00e"), looks := true }, kinds := [], alts := [], laidByText := true, laidKinds := [.data, .data, .data, .data, .sentinel, .sentinel, .pinned], laidTests := true, laidLooks := .later }
def TopBallastedUptoCardSaid : Prop := Claim7.holds Tryz.pinned (.plain (OpenSpec.upto topBallastedSpec)) topBallastedUptoCard
end Rows
end Go.Proofs.YthglcafppddedaaGreatDoor
