/-
  DERIVED. GIVEN WITH THE SEED: THE CARDS: each row of YtaeppaaolkcbbaaGreatDoorRows.lean that lists a variable, with what it lists TIED to the program's text (the seventh form; the later family's looks); each row that meets fmt, with fmt's text TOLD by the authors' own Lean function (tested against real Go, not proved from fmt's source: count such statements apart). THE CARD IS WHAT COUNTS. Prove the row's statement (the work); the ties are given (YtaeppaaolkcbbaaGreatDoorTie.lean); close each card by the builder's one call (the guide's Derived/Test/ToyasCard.lean, 'card_holds'). Laid BY PROGRAM, IN A SANDBOX (cutbox-door.mjs). By AI agents, Wed Nov 11 2026. No macro, syntax, notation, axiom, sorry.
-/
import Derived.Test.YtaeppaaolkcbbaaGreatDoorRows
import GoSem.ClaimSeven
namespace Go.Proofs.YtaeppaaolkcbbaaGreatDoor
namespace Rows

/-- THE TIED CARD OF 'loanwordlaw23.LayoutWords'. -/
def layoutWordsCard : Claim7 := { stood := { row := layoutWordsRow, standIns := [], harness := (true, "2155c0b35ace1b700fbfb74d6b5321d7074f517fccae87559c69bb5d311796f2"), looks := false }, kinds := [], alts := [], laidByText := true, laidKinds := [.data, .data, .data], laidTests := true, laidLooks := .later }
def LayoutWordsCardSaid : Prop := Claim7.holds Tryz.pinned (.plain (OpenSpec.ofChange layoutWordsSpec)) layoutWordsCard

/-- THE TIED CARD OF 'loanwordlaw23.LayoutUnits'. -/
def layoutUnitsCard : Claim7 := { stood := { row := layoutUnitsRow, standIns := [], harness := (true, "2155c0b35ace1b700fbfb74d6b5321d7074f517fccae87559c69bb5d311796f2"), looks := false }, kinds := [], alts := [], laidByText := true, laidKinds := [.data, .data, .data], laidTests := true, laidLooks := .later }
def LayoutUnitsCardSaid : Prop := Claim7.holds Tryz.pinned (.plain (OpenSpec.ofChange layoutUnitsSpec)) layoutUnitsCard

/-- THE TIED CARD OF 'loanwordlaw23.LayoutFills'. -/
def layoutFillsCard : Claim7 := { stood := { row := layoutFillsRow, standIns := [], harness := (true, "2155c0b35ace1b700fbfb74d6b5321d7074f517fccae87559c69bb5d311796f2"), looks := false }, kinds := [], alts := [], laidByText := true, laidKinds := [.data, .data, .data], laidTests := true, laidLooks := .later }
def LayoutFillsCardSaid : Prop := Claim7.holds Tryz.pinned (.plain (OpenSpec.ofChange layoutFillsSpec)) layoutFillsCard

/-- THE TIED CARD OF 'loanwordlaw23.LayoutShapes'. -/
def layoutShapesCard : Claim7 := { stood := { row := layoutShapesRow, standIns := [], harness := (true, "2155c0b35ace1b700fbfb74d6b5321d7074f517fccae87559c69bb5d311796f2"), looks := false }, kinds := [], alts := [], laidByText := true, laidKinds := [.data, .data, .data], laidTests := true, laidLooks := .later }
def LayoutShapesCardSaid : Prop := Claim7.holds Tryz.pinned (.plain (OpenSpec.ofChange layoutShapesSpec)) layoutShapesCard

/-- THE SECOND FORM's CARD OF 'loanwordlaw23.LayoutWords'. -/
def layoutWordsUptoCard : Claim7 := { stood := { row := layoutWordsUptoRow, standIns := [], harness := (true, "2155c0b35ace1b700fbfb74d6b5321d7074f517fccae87559c69bb5d311796f2"), looks := false }, kinds := [], alts := [], laidByText := true, laidKinds := [.data, .data, .data], laidTests := true, laidLooks := .later }
def LayoutWordsUptoCardSaid : Prop := Claim7.holds Tryz.pinned (.plain (OpenSpec.upto layoutWordsSpec)) layoutWordsUptoCard

/-- THE SECOND FORM's CARD OF 'loanwordlaw23.LayoutUnits'. -/
def layoutUnitsUptoCard : Claim7 := { stood := { row := layoutUnitsUptoRow, standIns := [], harness := (true, "2155c0b35ace1b700fbfb74d6b5321d7074f517fccae87559c69bb5d311796f2"), looks := false }, kinds := [], alts := [], laidByText := true, laidKinds := [.data, .data, .data], laidTests := true, laidLooks := .later }
def LayoutUnitsUptoCardSaid : Prop := Claim7.holds Tryz.pinned (.plain (OpenSpec.upto layoutUnitsSpec)) layoutUnitsUptoCard

/-- THE SECOND FORM's CARD OF 'loanwordlaw23.LayoutFills'. -/
def layoutFillsUptoCard : Claim7 := { stood := { row := layoutFillsUptoRow, standIns := [], harness := (true, "2155c0b35ace1b700fbfb74d6b5321d7074f517fccae87559c69bb5d311796f2"), looks := false }, kinds := [], alts := [], laidByText := true, laidKinds := [.data, .data, .data], laidTests := true, laidLooks := .later }
def LayoutFillsUptoCardSaid : Prop := Claim7.holds Tryz.pinned (.plain (OpenSpec.upto layoutFillsSpec)) layoutFillsUptoCard

/-- THE SECOND FORM's CARD OF 'loanwordlaw23.LayoutShapes'. -/
def layoutShapesUptoCard : Claim7 := { stood := { row := layoutShapesUptoRow, standIns := [], harness := (true, "2155c0b35ace1b700fbfb74d6b5321d7074f517fccae87559c69bb5d311796f2"), looks := false }, kinds := [], alts := [], laidByText := true, laidKinds := [.data, .data, .data], laidTests := true, laidLooks := .later }
def LayoutShapesUptoCardSaid : Prop := Claim7.holds Tryz.pinned (.plain (OpenSpec.upto layoutShapesSpec)) layoutShapesUptoCard
end Rows
end Go.Proofs.YtaeppaaolkcbbaaGreatDoor
