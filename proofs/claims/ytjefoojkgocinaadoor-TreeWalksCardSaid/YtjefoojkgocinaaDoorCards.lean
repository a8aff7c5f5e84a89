/-
  DERIVED. GIVEN WITH THE SEED: THE CARDS: each row of YtjefoojkgocinaaDoorRows.lean that lists a variable, with what it lists TIED to the program's text (the seventh form; the later family's looks); each row that meets fmt, with fmt's text TOLD by the authors' own Lean function (tested against real Go, not proved from fmt's source: count such statements apart). THE CARD IS WHAT COUNTS. Prove the row's statement (the work); the ties are given (YtjefoojkgocinaaDoorTie.lean); close each card by the builder's one call (the guide's Derived/Test/ToyasCard.lean, 'card_holds'). Laid BY PROGRAM, IN A SANDBOX (cutbox-door.mjs). By AI agents, Wed Nov 11 2026. No macro, syntax, notation, axiom, sorry.
-/
import Derived.Test.YtjefoojkgocinaaDoorRows
import GoSem.ClaimSeven
namespace Go.Proofs.YtjefoojkgocinaaDoor
namespace Rows

/-- THE TIED CARD OF 'loanwordlaw03.TreeJoins'. -/
def treeJoinsCard : Claim7 := { stood := { row := treeJoinsRow, standIns := [], harness := (true, "62158cd5e37e6bdb7588e24557a8e1cecc073da8ccb2e0230de16c46125bbe89"), looks := false }, kinds := [], alts := [], laidByText := true, laidKinds := [.listed, .data], laidTests := true, laidLooks := .later }
def TreeJoinsCardSaid : Prop := Claim7.holds Tryd.pinned (.plain (OpenSpec.ofChange treeJoinsSpec)) treeJoinsCard

/-- THE TIED CARD OF 'loanwordlaw03.TreeSubs'. -/
def treeSubsCard : Claim7 := { stood := { row := treeSubsRow, standIns := [], harness := (true, "62158cd5e37e6bdb7588e24557a8e1cecc073da8ccb2e0230de16c46125bbe89"), looks := false }, kinds := [], alts := [], laidByText := true, laidKinds := [.listed, .data], laidTests := true, laidLooks := .later }
def TreeSubsCardSaid : Prop := Claim7.holds Tryd.pinned (.plain (OpenSpec.ofChange treeSubsSpec)) treeSubsCard

/-- THE TIED CARD OF 'loanwordlaw03.TreeNames'. -/
def treeNamesCard : Claim7 := { stood := { row := treeNamesRow, standIns := [], harness := (true, "62158cd5e37e6bdb7588e24557a8e1cecc073da8ccb2e0230de16c46125bbe89"), looks := false }, kinds := [], alts := [], laidByText := true, laidKinds := [.listed, .data], laidTests := true, laidLooks := .later }
def TreeNamesCardSaid : Prop := Claim7.holds Tryd.pinned (.plain (OpenSpec.ofChange treeNamesSpec)) treeNamesCard

/-- THE TIED CARD OF 'loanwordlaw03.TreeParts'. -/
def treePartsCard : Claim7 := { stood := { row := treePartsRow, standIns := [], harness := (true, "62158cd5e37e6bdb7588e24557a8e1cecc073da8ccb2e0230de16c46125bbe89"), looks := false }, kinds := [], alts := [], laidByText := true, laidKinds := [.listed, .data], laidTests := true, laidLooks := .later }
def TreePartsCardSaid : Prop := Claim7.holds Tryd.pinned (.plain (OpenSpec.ofChange treePartsSpec)) treePartsCard

/-- THE TIED CARD OF 'loanwordlaw03.TreeWalks'. -/
def treeWalksCard : Claim7 := { stood := { row := treeWalksRow, standIns := [], harness := (true, "62158cd5e37e6bdb7588e24557a8e1cecc073da8ccb2e0230de16c46125bbe89"), looks := false }, kinds := [], alts := [], laidByText := true, laidKinds := [.listed, .data], laidTests := true, laidLooks := .later }
def TreeWalksCardSaid : Prop := Claim7.holds Tryd.pinned (.plain (OpenSpec.ofChange treeWalksSpec)) treeWalksCard

/-- THE SECOND FORM's CARD OF 'loanwordlaw03.TreeJoins'. -/
def treeJoinsUptoCard : Claim7 := { stood := { row := treeJoinsUptoRow, standIns := [], harness := (true, "62158cd5e37e6bdb7588e24557a8e1cecc073da8ccb2e0230de16c46125bbe89"), looks := false }, kinds := [], alts := [], laidByText := true, laidKinds := [.listed, .data], laidTests := true, laidLooks := .later }
def TreeJoinsUptoCardSaid : Prop := Claim7.holds Tryd.pinned (.plain (OpenSpec.upto treeJoinsSpec)) treeJoinsUptoCard

/-- THE SECOND FORM's CARD OF 'loanwordlaw03.TreeSubs'. -/
def treeSubsUptoCard : Claim7 := { stood := { row := treeSubsUptoRow, standIns := [], harness := (true, "62158cd5e37e6bdb7588e24557a8e1cecc073da8ccb2e0230de16c46125bbe89"), looks := false }, kinds := [], alts := [], laidByText := true, laidKinds := [.listed, .data], laidTests := true, laidLooks := .later }
def TreeSubsUptoCardSaid : Prop := Claim7.holds Tryd.pinned (.plain (OpenSpec.upto treeSubsSpec)) treeSubsUptoCard

/-- THE SECOND FORM's CARD OF 'loanwordlaw03.TreeNames'. -/
def treeNamesUptoCard : Claim7 := { stood := { row := treeNamesUptoRow, standIns := [], harness := (true, "62158cd5e37e6bdb7588e24557a8e1cecc073da8ccb2e0230de16c46125bbe89"), looks := false }, kinds := [], alts := [], laidByText := true, laidKinds := [.listed, .data], laidTests := true, laidLooks := .later }
def TreeNamesUptoCardSaid : Prop := Claim7.holds Tryd.pinned (.plain (OpenSpec.upto treeNamesSpec)) treeNamesUptoCard

/-- THE SECOND FORM's CARD OF 'loanwordlaw03.TreeParts'. -/
def treePartsUptoCard : Claim7 := { stood := { row := treePartsUptoRow, standIns := [], harness := (true, "62158cd5e37e6bdb7588e24557a8e1cecc073da8ccb2e0230de16c46125bbe89"), looks := false }, kinds := [], alts := [], laidByText := true, laidKinds := [.listed, .data], laidTests := true, laidLooks := .later }
def TreePartsUptoCardSaid : Prop := Claim7.holds Tryd.pinned (.plain (OpenSpec.upto treePartsSpec)) treePartsUptoCard

/-- THE SECOND FORM's CARD OF 'loanwordlaw03.TreeWalks'. -/
def treeWalksUptoCard : Claim7 := { stood := { row := treeWalksUptoRow, standIns := [], harness := (true, "62158cd5e37e6bdb7588e24557a8e1cecc073da8ccb2e0230de16c46125bbe89"), looks := false }, kinds := [], alts := [], laidByText := true, laidKinds := [.listed, .data], laidTests := true, laidLooks := .later }
def TreeWalksUptoCardSaid : Prop := Claim7.holds Tryd.pinned (.plain (OpenSpec.upto treeWalksSpec)) treeWalksUptoCard
end Rows
end Go.Proofs.YtjefoojkgocinaaDoor
