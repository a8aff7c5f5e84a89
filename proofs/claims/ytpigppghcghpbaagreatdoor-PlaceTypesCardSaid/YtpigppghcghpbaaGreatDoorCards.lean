/-
  DERIVED. GIVEN WITH THE SEED: THE CARDS: each row of YtpigppghcghpbaaGreatDoorRows.lean that lists a variable, with what it lists TIED to the program's text (the seventh form; the later family's looks); each row that meets fmt, with fmt's text TOLD by the authors' own Lean function (tested against real Go, not proved from fmt's source: count such statements apart). THE CARD IS WHAT COUNTS. Prove the row's statement (the work); the ties are given (YtpigppghcghpbaaGreatDoorTie.lean); close each card by the builder's one call (the guide's Derived/Test/ToyasCard.lean, 'card_holds'). Laid BY PROGRAM, IN A SANDBOX (cutbox-door.mjs). By AI agents, Wed Nov 11 2026. No macro, syntax, notation, axiom, sorry.
-/
import Derived.Test.YtpigppghcghpbaaGreatDoorRows
import GoSem.ClaimSeven
namespace Go.Proofs.YtpigppghcghpbaaGreatDoor
namespace Rows

/-- THE TIED CARD OF 'loanwordlaw09.PlaceWithin'. -/
def placeWithinCard : Claim7 := { stood := { row := placeWithinRow, standIns := [], harness := (true, "26ca692607eb779fe054c325860199845d1ee853701862e3abe815f1a181fe7c"), looks := true }, kinds := [], alts := [], laidByText := true, laidKinds := [.data, .data, .data, .data, .sentinel, .sentinel, .pinned], laidTests := true, laidLooks := .later }
def PlaceWithinCardSaid : Prop := Claim7.holds Tryz.pinned (.plain (OpenSpec.ofChange placeWithinSpec)) placeWithinCard

/-- THE TIED CARD OF 'loanwordlaw09.PlaceOrders'. -/
def placeOrdersCard : Claim7 := { stood := { row := placeOrdersRow, standIns := [], harness := (true, "26ca692607eb779fe054c325860199845d1ee853701862e3abe815f1a181fe7c"), looks := true }, kinds := [], alts := [], laidByText := true, laidKinds := [.data, .data, .data, .data, .sentinel, .sentinel, .pinned], laidTests := true, laidLooks := .later }
def PlaceOrdersCardSaid : Prop := Claim7.holds Tryz.pinned (.plain (OpenSpec.ofChange placeOrdersSpec)) placeOrdersCard

/-- THE TIED CARD OF 'loanwordlaw09.PlaceTree'. -/
def placeTreeCard : Claim7 := { stood := { row := placeTreeRow, standIns := [], harness := (true, "26ca692607eb779fe054c325860199845d1ee853701862e3abe815f1a181fe7c"), looks := true }, kinds := [], alts := [], laidByText := true, laidKinds := [.data, .data, .data, .data, .sentinel, .sentinel, .pinned], laidTests := true, laidLooks := .later }
def PlaceTreeCardSaid : Prop := Claim7.holds Tryz.pinned (.plain (OpenSpec.ofChange placeTreeSpec)) placeTreeCard

/-- THE TIED CARD OF 'loanwordlaw09.PlaceDepths'. -/
def placeDepthsCard : Claim7 := { stood := { row := placeDepthsRow, standIns := [], harness := (true, "26ca692607eb779fe054c325860199845d1ee853701862e3abe815f1a181fe7c"), looks := true }, kinds := [], alts := [], laidByText := true, laidKinds := [.data, .data, .data, .data, .sentinel, .sentinel, .pinned], laidTests := true, laidLooks := .later }
def PlaceDepthsCardSaid : Prop := Claim7.holds Tryz.pinned (.plain (OpenSpec.ofChange placeDepthsSpec)) placeDepthsCard

/-- THE TIED CARD OF 'loanwordlaw09.PlaceBack'. -/
def placeBackCard : Claim7 := { stood := { row := placeBackRow, standIns := [], harness := (true, "26ca692607eb779fe054c325860199845d1ee853701862e3abe815f1a181fe7c"), looks := true }, kinds := [], alts := [], laidByText := true, laidKinds := [.data, .data, .data, .data, .sentinel, .sentinel, .pinned], laidTests := true, laidLooks := .later }
def PlaceBackCardSaid : Prop := Claim7.holds Tryz.pinned (.plain (OpenSpec.ofChange placeBackSpec)) placeBackCard

/-- THE TIED CARD OF 'loanwordlaw09.PlaceTypes'. -/
def placeTypesCard : Claim7 := { stood := { row := placeTypesRow, standIns := [], harness := (true, "26ca692607eb779fe054c325860199845d1ee853701862e3abe815f1a181fe7c"), looks := true }, kinds := [], alts := [], laidByText := true, laidKinds := [.data, .data, .data, .data, .sentinel, .sentinel, .pinned], laidTests := true, laidLooks := .later }
def PlaceTypesCardSaid : Prop := Claim7.holds Tryz.pinned (.plain (OpenSpec.ofChange placeTypesSpec)) placeTypesCard

/-- THE SECOND FORM's CARD OF 'loanwordlaw09.PlaceWithin'. -/
def placeWithinUptoCard : Claim7 := { stood := { row := placeWithinUptoRow, standIns := [], harness := (true, "26ca692607eb779fe054c325860199845d1ee853701862e3abe815f1a181fe7c"), looks := true }, kinds := [], alts := [], laidByText := true, laidKinds := [.data, .data, .data, .data, .sentinel, .sentinel, .pinned], laidTests := true, laidLooks := .later }
def PlaceWithinUptoCardSaid : Prop := Claim7.holds Tryz.pinned (.plain (OpenSpec.upto placeWithinSpec)) placeWithinUptoCard

/-- THE SECOND FORM's CARD OF 'loanwordlaw09.PlaceOrders'. -/
def placeOrdersUptoCard : Claim7 := { stood := { row := placeOrdersUptoRow, standIns := [], harness := (true, "26ca692607eb779fe054c325860199845d1ee853701862e3abe815f1a181fe7c"), looks := true }, kinds := [], alts := [], laidByText := true, laidKinds := [.data, .data, .data, .data, .sentinel, .sentinel, .pinned], laidTests := true, laidLooks := .later }
def PlaceOrdersUptoCardSaid : Prop := Claim7.holds Tryz.pinned (.plain (OpenSpec.upto placeOrdersSpec)) placeOrdersUptoCard

/-- THE SECOND FORM's CARD OF 'loanwordlaw09.PlaceTree'. -/
def placeTreeUptoCard : Claim7 := { stood := { row := placeTreeUptoRow, standIns := [], harness := (true, "26ca692607eb779fe054c325860199845d1ee853701862e3abe815f1a181fe7c"), looks := true }, kinds := [], alts := [], laidByText := true, laidKinds := [.data, .data, .data, .data, .sentinel, .sentinel, .pinned], laidTests := true, laidLooks := .later }
def PlaceTreeUptoCardSaid : Prop := Claim7.holds Tryz.pinned (.plain (OpenSpec.upto placeTreeSpec)) placeTreeUptoCard

/-- THE SECOND FORM's CARD OF 'loanwordlaw09.PlaceDepths'. -/
def placeDepthsUptoCard : Claim7 := { stood := { row := placeDepthsUptoRow, standIns := [], harness := (true, "26ca692607eb779fe054c325860199845d1ee853701862e3abe815f1a181fe7c"), looks := true }, kinds := [], alts := [], laidByText := true, laidKinds := [.data, .data, .data, .data, .sentinel, .sentinel, .pinned], laidTests := true, laidLooks := .later }
def PlaceDepthsUptoCardSaid : Prop := Claim7.holds Tryz.pinned (.plain (OpenSpec.upto placeDepthsSpec)) placeDepthsUptoCard

/-- THE SECOND FORM's CARD OF 'loanwordlaw09.PlaceBack'. -/
def placeBackUptoCard : Claim7 := { stood := { row := placeBackUptoRow, standIns := [], harness := (true, "26ca692607eb779fe054c325860199845d1ee853701862e3abe815f1a181fe7c"), looks := true }, kinds := [], alts := [], laidByText := true, laidKinds := [.data, .data, .data, .data, .sentinel, .sentinel, .pinned], laidTests := true, laidLooks := .later }
def PlaceBackUptoCardSaid : Prop := Claim7.holds Tryz.pinned (.plain (OpenSpec.upto placeBackSpec)) placeBackUptoCard

/-- THE SECOND FORM's CARD OF 'loanwordlaw09.PlaceTypes'. -/
def placeTypesUptoCard : Claim7 := { stood := { row := placeTypesUptoRow, standIns := [], harness := (true, "26ca692607eb779fe054c325860199845d1ee853701862e3abe815f1a181fe7c"), looks := true }, kinds := [], alts := [], laidByText := true, laidKinds := [.data, .data, .data, .data, .sentinel, .sentinel, .pinned], laidTests := true, laidLooks := .later }
def PlaceTypesUptoCardSaid : Prop := Claim7.holds Tryz.pinned (.plain (OpenSpec.upto placeTypesSpec)) placeTypesUptoCard
end Rows
end Go.Proofs.YtpigppghcghpbaaGreatDoor
