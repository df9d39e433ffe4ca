/-
  DERIVED. GIVEN WITH THE SEED: THE CARDS: each row of YtnedncdhnggooaaDoorRows.lean that lists a variable, with what it lists TIED to the program's text (the seventh form; the later family's looks); each row that meets fmt, with fmt's text TOLD by the authors' own Lean function (tested against real Go, not proved from fmt's source: count such statements apart). THE CARD IS WHAT COUNTS. Prove the row's statement (the work); the ties are given (YtnedncdhnggooaaDoorTie.lean); close each card by the builder's one call (the guide's Derived/Test/ToyasCard.lean, 'card_holds'). Laid BY PROGRAM, IN A SANDBOX (cutbox-door.mjs). By AI agents, Wed Nov 11 2026. No macro, syntax, notation, axiom, sorry.
-/
import Derived.Test.YtnedncdhnggooaaDoorRows
import GoSem.ClaimSeven
namespace Go.Proofs.YtnedncdhnggooaaDoor
namespace Rows

/-- THE TIED CARD OF 'orloplaw12.WaterCan'. -/
def waterCanCard : Claim7 := { stood := { row := waterCanRow, standIns := [], harness := (true, "e383cead41a255c09e05ccaa174cce411f572032c0c707f082e3ac6488eaced5"), looks := false }, kinds := [], alts := [], laidByText := true, laidKinds := [.data, .data], laidTests := true, laidLooks := .later }
def WaterCanCardSaid : Prop := Claim7.holds Tryd.pinned (.plain (OpenSpec.ofChange waterCanSpec)) waterCanCard

/-- THE TIED CARD OF 'orloplaw12.WaterSources'. -/
def waterSourcesCard : Claim7 := { stood := { row := waterSourcesRow, standIns := [], harness := (true, "e383cead41a255c09e05ccaa174cce411f572032c0c707f082e3ac6488eaced5"), looks := false }, kinds := [], alts := [], laidByText := true, laidKinds := [.data, .data], laidTests := true, laidLooks := .later }
def WaterSourcesCardSaid : Prop := Claim7.holds Tryd.pinned (.plain (OpenSpec.ofChange waterSourcesSpec)) waterSourcesCard

/-- THE TIED CARD OF 'orloplaw12.WaterAsk'. -/
def waterAskCard : Claim7 := { stood := { row := waterAskRow, standIns := [], harness := (true, "e383cead41a255c09e05ccaa174cce411f572032c0c707f082e3ac6488eaced5"), looks := false }, kinds := [], alts := [], laidByText := true, laidKinds := [.data, .data], laidTests := true, laidLooks := .later }
def WaterAskCardSaid : Prop := Claim7.holds Tryd.pinned (.plain (OpenSpec.ofChange waterAskSpec)) waterAskCard

/-- THE TIED CARD OF 'orloplaw12.WaterKnown'. -/
def waterKnownCard : Claim7 := { stood := { row := waterKnownRow, standIns := [], harness := (true, "e383cead41a255c09e05ccaa174cce411f572032c0c707f082e3ac6488eaced5"), looks := false }, kinds := [], alts := [], laidByText := true, laidKinds := [.data, .data], laidTests := true, laidLooks := .later }
def WaterKnownCardSaid : Prop := Claim7.holds Tryd.pinned (.plain (OpenSpec.ofChange waterKnownSpec)) waterKnownCard

/-- THE TIED CARD OF 'orloplaw12.WaterTrue'. -/
def waterTrueCard : Claim7 := { stood := { row := waterTrueRow, standIns := [], harness := (true, "e383cead41a255c09e05ccaa174cce411f572032c0c707f082e3ac6488eaced5"), looks := false }, kinds := [], alts := [], laidByText := true, laidKinds := [.data, .data], laidTests := true, laidLooks := .later }
def WaterTrueCardSaid : Prop := Claim7.holds Tryd.pinned (.plain (OpenSpec.ofChange waterTrueSpec)) waterTrueCard

/-- THE TIED CARD OF 'orloplaw12.WaterMust'. -/
def waterMustCard : Claim7 := { stood := { row := waterMustRow, standIns := [], harness := (true, "e383cead41a255c09e05ccaa174cce411f572032c0c707f082e3ac6488eaced5"), looks := false }, kinds := [], alts := [], laidByText := true, laidKinds := [.data, .data], laidTests := true, laidLooks := .later }
def WaterMustCardSaid : Prop := Claim7.holds Tryd.pinned (.plain (OpenSpec.ofChange waterMustSpec)) waterMustCard

/-- THE TIED CARD OF 'orloplaw12.WaterFewest'. -/
def waterFewestCard : Claim7 := { stood := { row := waterFewestRow, standIns := [], harness := (true, "e383cead41a255c09e05ccaa174cce411f572032c0c707f082e3ac6488eaced5"), looks := false }, kinds := [], alts := [], laidByText := true, laidKinds := [.data, .data], laidTests := true, laidLooks := .later }
def WaterFewestCardSaid : Prop := Claim7.holds Tryd.pinned (.plain (OpenSpec.ofChange waterFewestSpec)) waterFewestCard

/-- THE TIED CARD OF 'orloplaw12.WaterMore'. -/
def waterMoreCard : Claim7 := { stood := { row := waterMoreRow, standIns := [], harness := (true, "e383cead41a255c09e05ccaa174cce411f572032c0c707f082e3ac6488eaced5"), looks := false }, kinds := [], alts := [], laidByText := true, laidKinds := [.data, .data], laidTests := true, laidLooks := .later }
def WaterMoreCardSaid : Prop := Claim7.holds Tryd.pinned (.plain (OpenSpec.ofChange waterMoreSpec)) waterMoreCard

/-- THE TIED CARD OF 'orloplaw12.WaterAsked'. -/
def waterAskedCard : Claim7 := { stood := { row := waterAskedRow, standIns := [], harness := (true, "e383cead41a255c09e05ccaa174cce411f572032c0c707f082e3ac6488eaced5"), looks := false }, kinds := [], alts := [], laidByText := true, laidKinds := [.data, .data], laidTests := true, laidLooks := .later }
def WaterAskedCardSaid : Prop := Claim7.holds Tryd.pinned (.plain (OpenSpec.ofChange waterAskedSpec)) waterAskedCard

/-- THE TIED CARD OF 'orloplaw12.WaterOrder'. -/
def waterOrderCard : Claim7 := { stood := { row := waterOrderRow, standIns := [], harness := (true, "e383cead41a255c09e05ccaa174cce411f572032c0c707f082e3ac6488eaced5"), looks := false }, kinds := [], alts := [], laidByText := true, laidKinds := [.data, .data], laidTests := true, laidLooks := .later }
def WaterOrderCardSaid : Prop := Claim7.holds Tryd.pinned (.plain (OpenSpec.ofChange waterOrderSpec)) waterOrderCard

/-- THE TIED CARD OF 'orloplaw12.WaterTurned'. -/
def waterTurnedCard : Claim7 := { stood := { row := waterTurnedRow, standIns := [], harness := (true, "e383cead41a255c09e05ccaa174cce411f572032c0c707f082e3ac6488eaced5"), looks := false }, kinds := [], alts := [], laidByText := true, laidKinds := [.data, .data], laidTests := true, laidLooks := .later }
def WaterTurnedCardSaid : Prop := Claim7.holds Tryd.pinned (.plain (OpenSpec.ofChange waterTurnedSpec)) waterTurnedCard

/-- THE TIED CARD OF 'orloplaw12.WaterWider'. -/
def waterWiderCard : Claim7 := { stood := { row := waterWiderRow, standIns := [], harness := (true, "e383cead41a255c09e05ccaa174cce411f572032c0c707f082e3ac6488eaced5"), looks := false }, kinds := [], alts := [], laidByText := true, laidKinds := [.data, .data], laidTests := true, laidLooks := .later }
def WaterWiderCardSaid : Prop := Claim7.holds Tryd.pinned (.plain (OpenSpec.ofChange waterWiderSpec)) waterWiderCard

/-- THE SECOND FORM's CARD OF 'orloplaw12.WaterCan'. -/
def waterCanUptoCard : Claim7 := { stood := { row := waterCanUptoRow, standIns := [], harness := (true, "e383cead41a255c09e05ccaa174cce411f572032c0c707f082e3ac6488eaced5"), looks := false }, kinds := [], alts := [], laidByText := true, laidKinds := [.data, .data], laidTests := true, laidLooks := .later }
def WaterCanUptoCardSaid : Prop := Claim7.holds Tryd.pinned (.plain (OpenSpec.upto waterCanSpec)) waterCanUptoCard

/-- THE SECOND FORM's CARD OF 'orloplaw12.WaterSources'. -/
def waterSourcesUptoCard : Claim7 := { stood := { row := waterSourcesUptoRow, standIns := [], harness := (true, "e383cead41a255c09e05ccaa174cce411f572032c0c707f082e3ac6488eaced5"), looks := false }, kinds := [], alts := [], laidByText := true, laidKinds := [.data, .data], laidTests := true, laidLooks := .later }
def WaterSourcesUptoCardSaid : Prop := Claim7.holds Tryd.pinned (.plain (OpenSpec.upto waterSourcesSpec)) waterSourcesUptoCard

/-- THE SECOND FORM's CARD OF 'orloplaw12.WaterAsk'. -/
def waterAskUptoCard : Claim7 := { stood := { row := waterAskUptoRow, standIns := [], harness := (true, "e383cead41a255c09e05ccaa174cce411f572032c0c707f082e3ac6488eaced5"), looks := false }, kinds := [], alts := [], laidByText := true, laidKinds := [.data, .data], laidTests := true, laidLooks := .later }
def WaterAskUptoCardSaid : Prop := Claim7.holds Tryd.pinned (.plain (OpenSpec.upto waterAskSpec)) waterAskUptoCard

/-- THE SECOND FORM's CARD OF 'orloplaw12.WaterKnown'. -/
def waterKnownUptoCard : Claim7 := { stood := { row := waterKnownUptoRow, standIns := [], harness := (true, "e383cead41a255c09e05ccaa174cce411f572032c0c707f082e3ac6488eaced5"), looks := false }, kinds := [], alts := [], laidByText := true, laidKinds := [.data, .data], laidTests := true, laidLooks := .later }
def WaterKnownUptoCardSaid : Prop := Claim7.holds Tryd.pinned (.plain (OpenSpec.upto waterKnownSpec)) waterKnownUptoCard

/-- THE SECOND FORM's CARD OF 'orloplaw12.WaterTrue'. -/
def waterTrueUptoCard : Claim7 := { stood := { row := waterTrueUptoRow, standIns := [], harness := (true, "e383cead41a255c09e05ccaa174cce411f572032c0c707f082e3ac6488eaced5"), looks := false }, kinds := [], alts := [], laidByText := true, laidKinds := [.data, .data], laidTests := true, laidLooks := .later }
def WaterTrueUptoCardSaid : Prop := Claim7.holds Tryd.pinned (.plain (OpenSpec.upto waterTrueSpec)) waterTrueUptoCard

/-- THE SECOND FORM's CARD OF 'orloplaw12.WaterMust'. -/
def waterMustUptoCard : Claim7 := { stood := { row := waterMustUptoRow, standIns := [], harness := (true, "e383cead41a255c09e05ccaa174cce411f572032c0c707f082e3ac6488eaced5"), looks := false }, kinds := [], alts := [], laidByText := true, laidKinds := [.data, .data], laidTests := true, laidLooks := .later }
def WaterMustUptoCardSaid : Prop := Claim7.holds Tryd.pinned (.plain (OpenSpec.upto waterMustSpec)) waterMustUptoCard

/-- THE SECOND FORM's CARD OF 'orloplaw12.WaterFewest'. -/
def waterFewestUptoCard : Claim7 := { stood := { row := waterFewestUptoRow, standIns := [], harness := (true, "e383cead41a255c09e05ccaa174cce411f572032c0c707f082e3ac6488eaced5"), looks := false }, kinds := [], alts := [], laidByText := true, laidKinds := [.data, .data], laidTests := true, laidLooks := .later }
def WaterFewestUptoCardSaid : Prop := Claim7.holds Tryd.pinned (.plain (OpenSpec.upto waterFewestSpec)) waterFewestUptoCard

/-- THE SECOND FORM's CARD OF 'orloplaw12.WaterMore'. -/
def waterMoreUptoCard : Claim7 := { stood := { row := waterMoreUptoRow, standIns := [], harness := (true, "e383cead41a255c09e05ccaa174cce411f572032c0c707f082e3ac6488eaced5"), looks := false }, kinds := [], alts := [], laidByText := true, laidKinds := [.data, .data], laidTests := true, laidLooks := .later }
def WaterMoreUptoCardSaid : Prop := Claim7.holds Tryd.pinned (.plain (OpenSpec.upto waterMoreSpec)) waterMoreUptoCard

/-- THE SECOND FORM's CARD OF 'orloplaw12.WaterAsked'. -/
def waterAskedUptoCard : Claim7 := { stood := { row := waterAskedUptoRow, standIns := [], harness := (true, "e383cead41a255c09e05ccaa174cce411f572032c0c707f082e3ac6488eaced5"), looks := false }, kinds := [], alts := [], laidByText := true, laidKinds := [.data, .data], laidTests := true, laidLooks := .later }
def WaterAskedUptoCardSaid : Prop := Claim7.holds Tryd.pinned (.plain (OpenSpec.upto waterAskedSpec)) waterAskedUptoCard

/-- THE SECOND FORM's CARD OF 'orloplaw12.WaterOrder'. -/
def waterOrderUptoCard : Claim7 := { stood := { row := waterOrderUptoRow, standIns := [], harness := (true, "e383cead41a255c09e05ccaa174cce411f572032c0c707f082e3ac6488eaced5"), looks := false }, kinds := [], alts := [], laidByText := true, laidKinds := [.data, .data], laidTests := true, laidLooks := .later }
def WaterOrderUptoCardSaid : Prop := Claim7.holds Tryd.pinned (.plain (OpenSpec.upto waterOrderSpec)) waterOrderUptoCard

/-- THE SECOND FORM's CARD OF 'orloplaw12.WaterTurned'. -/
def waterTurnedUptoCard : Claim7 := { stood := { row := waterTurnedUptoRow, standIns := [], harness := (true, "e383cead41a255c09e05ccaa174cce411f572032c0c707f082e3ac6488eaced5"), looks := false }, kinds := [], alts := [], laidByText := true, laidKinds := [.data, .data], laidTests := true, laidLooks := .later }
def WaterTurnedUptoCardSaid : Prop := Claim7.holds Tryd.pinned (.plain (OpenSpec.upto waterTurnedSpec)) waterTurnedUptoCard

/-- THE SECOND FORM's CARD OF 'orloplaw12.WaterWider'. -/
def waterWiderUptoCard : Claim7 := { stood := { row := waterWiderUptoRow, standIns := [], harness := (true, "e383cead41a255c09e05ccaa174cce411f572032c0c707f082e3ac6488eaced5"), looks := false }, kinds := [], alts := [], laidByText := true, laidKinds := [.data, .data], laidTests := true, laidLooks := .later }
def WaterWiderUptoCardSaid : Prop := Claim7.holds Tryd.pinned (.plain (OpenSpec.upto waterWiderSpec)) waterWiderUptoCard
end Rows
end Go.Proofs.YtnedncdhnggooaaDoor
