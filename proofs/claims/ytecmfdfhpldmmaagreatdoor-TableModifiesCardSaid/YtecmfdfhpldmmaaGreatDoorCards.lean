/-
  DERIVED. GIVEN WITH THE SEED: THE CARDS: each row of YtecmfdfhpldmmaaGreatDoorRows.lean that lists a variable, with what it lists TIED to the program's text (the seventh form; the later family's looks); each row that meets fmt, with fmt's text TOLD by the authors' own Lean function (tested against real Go, not proved from fmt's source: count such statements apart). THE CARD IS WHAT COUNTS. Prove the row's statement (the work); the ties are given (YtecmfdfhpldmmaaGreatDoorTie.lean); close each card by the builder's one call (the guide's Derived/Test/ToyasCard.lean, 'card_holds'). Laid BY PROGRAM, IN A SANDBOX (cutbox-door.mjs). By AI agents, Wed Nov 11 2026. No macro, syntax, notation, axiom, sorry.
-/
import Derived.Test.YtecmfdfhpldmmaaGreatDoorRows
import GoSem.ClaimSeven
namespace Go.Proofs.YtecmfdfhpldmmaaGreatDoor
namespace Rows

/-- THE TIED CARD OF 'cabinetrylaw03.TableFits'. -/
def tableFitsCard : Claim7 := { stood := { row := tableFitsRow, standIns := [], harness := (true, "6d460b44cf214a2f25816489b60794dbf23fc0abfca9b62906662ee06b5ef12a"), looks := false }, kinds := [], alts := [], laidByText := true, laidKinds := [.data, .pinned], laidTests := true, laidLooks := .later }
def TableFitsCardSaid : Prop := Claim7.holds Tryz.pinned (.plain (OpenSpec.ofChange tableFitsSpec)) tableFitsCard

/-- THE TIED CARD OF 'cabinetrylaw03.TableWrites'. -/
def tableWritesCard : Claim7 := { stood := { row := tableWritesRow, standIns := [], harness := (true, "6d460b44cf214a2f25816489b60794dbf23fc0abfca9b62906662ee06b5ef12a"), looks := false }, kinds := [], alts := [], laidByText := true, laidKinds := [.data, .pinned], laidTests := true, laidLooks := .later }
def TableWritesCardSaid : Prop := Claim7.holds Tryz.pinned (.plain (OpenSpec.ofChange tableWritesSpec)) tableWritesCard

/-- THE TIED CARD OF 'cabinetrylaw03.TableBlanks'. -/
def tableBlanksCard : Claim7 := { stood := { row := tableBlanksRow, standIns := [], harness := (true, "6d460b44cf214a2f25816489b60794dbf23fc0abfca9b62906662ee06b5ef12a"), looks := false }, kinds := [], alts := [], laidByText := true, laidKinds := [.data, .pinned], laidTests := true, laidLooks := .later }
def TableBlanksCardSaid : Prop := Claim7.holds Tryz.pinned (.plain (OpenSpec.ofChange tableBlanksSpec)) tableBlanksCard

/-- THE TIED CARD OF 'cabinetrylaw03.TableValidates'. -/
def tableValidatesCard : Claim7 := { stood := { row := tableValidatesRow, standIns := [], harness := (true, "6d460b44cf214a2f25816489b60794dbf23fc0abfca9b62906662ee06b5ef12a"), looks := false }, kinds := [], alts := [], laidByText := true, laidKinds := [.data, .pinned], laidTests := true, laidLooks := .later }
def TableValidatesCardSaid : Prop := Claim7.holds Tryz.pinned (.plain (OpenSpec.ofChange tableValidatesSpec)) tableValidatesCard

/-- THE TIED CARD OF 'cabinetrylaw03.TableDiffers'. -/
def tableDiffersCard : Claim7 := { stood := { row := tableDiffersRow, standIns := [], harness := (true, "6d460b44cf214a2f25816489b60794dbf23fc0abfca9b62906662ee06b5ef12a"), looks := false }, kinds := [], alts := [], laidByText := true, laidKinds := [.data, .pinned], laidTests := true, laidLooks := .later }
def TableDiffersCardSaid : Prop := Claim7.holds Tryz.pinned (.plain (OpenSpec.ofChange tableDiffersSpec)) tableDiffersCard

/-- THE TIED CARD OF 'cabinetrylaw03.TableReads'. -/
def tableReadsCard : Claim7 := { stood := { row := tableReadsRow, standIns := [], harness := (true, "6d460b44cf214a2f25816489b60794dbf23fc0abfca9b62906662ee06b5ef12a"), looks := false }, kinds := [], alts := [], laidByText := true, laidKinds := [.data, .pinned], laidTests := true, laidLooks := .later }
def TableReadsCardSaid : Prop := Claim7.holds Tryz.pinned (.plain (OpenSpec.ofChange tableReadsSpec)) tableReadsCard

/-- THE TIED CARD OF 'cabinetrylaw03.TableBack'. -/
def tableBackCard : Claim7 := { stood := { row := tableBackRow, standIns := [], harness := (true, "6d460b44cf214a2f25816489b60794dbf23fc0abfca9b62906662ee06b5ef12a"), looks := false }, kinds := [], alts := [], laidByText := true, laidKinds := [.data, .pinned], laidTests := true, laidLooks := .later }
def TableBackCardSaid : Prop := Claim7.holds Tryz.pinned (.plain (OpenSpec.ofChange tableBackSpec)) tableBackCard

/-- THE TIED CARD OF 'cabinetrylaw03.TableSpoils'. -/
def tableSpoilsCard : Claim7 := { stood := { row := tableSpoilsRow, standIns := [], harness := (true, "6d460b44cf214a2f25816489b60794dbf23fc0abfca9b62906662ee06b5ef12a"), looks := false }, kinds := [], alts := [], laidByText := true, laidKinds := [.data, .pinned], laidTests := true, laidLooks := .later }
def TableSpoilsCardSaid : Prop := Claim7.holds Tryz.pinned (.plain (OpenSpec.ofChange tableSpoilsSpec)) tableSpoilsCard

/-- THE TIED CARD OF 'cabinetrylaw03.TableModifies'. -/
def tableModifiesCard : Claim7 := { stood := { row := tableModifiesRow, standIns := [], harness := (true, "6d460b44cf214a2f25816489b60794dbf23fc0abfca9b62906662ee06b5ef12a"), looks := false }, kinds := [], alts := [], laidByText := true, laidKinds := [.data, .pinned], laidTests := true, laidLooks := .later }
def TableModifiesCardSaid : Prop := Claim7.holds Tryz.pinned (.plain (OpenSpec.ofChange tableModifiesSpec)) tableModifiesCard

/-- THE SECOND FORM's CARD OF 'cabinetrylaw03.TableFits'. -/
def tableFitsUptoCard : Claim7 := { stood := { row := tableFitsUptoRow, standIns := [], harness := (true, "6d460b44cf214a2f25816489b60794dbf23fc0abfca9b62906662ee06b5ef12a"), looks := false }, kinds := [], alts := [], laidByText := true, laidKinds := [.data, .pinned], laidTests := true, laidLooks := .later }
def TableFitsUptoCardSaid : Prop := Claim7.holds Tryz.pinned (.plain (OpenSpec.upto tableFitsSpec)) tableFitsUptoCard

/-- THE SECOND FORM's CARD OF 'cabinetrylaw03.TableWrites'. -/
def tableWritesUptoCard : Claim7 := { stood := { row := tableWritesUptoRow, standIns := [], harness := (true, "6d460b44cf214a2f25816489b60794dbf23fc0abfca9b62906662ee06b5ef12a"), looks := false }, kinds := [], alts := [], laidByText := true, laidKinds := [.data, .pinned], laidTests := true, laidLooks := .later }
def TableWritesUptoCardSaid : Prop := Claim7.holds Tryz.pinned (.plain (OpenSpec.upto tableWritesSpec)) tableWritesUptoCard

/-- THE SECOND FORM's CARD OF 'cabinetrylaw03.TableBlanks'. -/
def tableBlanksUptoCard : Claim7 := { stood := { row := tableBlanksUptoRow, standIns := [], harness := (true, "6d460b44cf214a2f25816489b60794dbf23fc0abfca9b62906662ee06b5ef12a"), looks := false }, kinds := [], alts := [], laidByText := true, laidKinds := [.data, .pinned], laidTests := true, laidLooks := .later }
def TableBlanksUptoCardSaid : Prop := Claim7.holds Tryz.pinned (.plain (OpenSpec.upto tableBlanksSpec)) tableBlanksUptoCard

/-- THE SECOND FORM's CARD OF 'cabinetrylaw03.TableValidates'. -/
def tableValidatesUptoCard : Claim7 := { stood := { row := tableValidatesUptoRow, standIns := [], harness := (true, "6d460b44cf214a2f25816489b60794dbf23fc0abfca9b62906662ee06b5ef12a"), looks := false }, kinds := [], alts := [], laidByText := true, laidKinds := [.data, .pinned], laidTests := true, laidLooks := .later }
def TableValidatesUptoCardSaid : Prop := Claim7.holds Tryz.pinned (.plain (OpenSpec.upto tableValidatesSpec)) tableValidatesUptoCard

/-- THE SECOND FORM's CARD OF 'cabinetrylaw03.TableDiffers'. -/
def tableDiffersUptoCard : Claim7 := { stood := { row := tableDiffersUptoRow, standIns := [], harness := (true, "6d460b44cf214a2f25816489b60794dbf23fc0abfca9b62906662ee06b5ef12a"), looks := false }, kinds := [], alts := [], laidByText := true, laidKinds := [.data, .pinned], laidTests := true, laidLooks := .later }
def TableDiffersUptoCardSaid : Prop := Claim7.holds Tryz.pinned (.plain (OpenSpec.upto tableDiffersSpec)) tableDiffersUptoCard

/-- THE SECOND FORM's CARD OF 'cabinetrylaw03.TableReads'. -/
def tableReadsUptoCard : Claim7 := { stood := { row := tableReadsUptoRow, standIns := [], harness := (true, "6d460b44cf214a2f25816489b60794dbf23fc0abfca9b62906662ee06b5ef12a"), looks := false }, kinds := [], alts := [], laidByText := true, laidKinds := [.data, .pinned], laidTests := true, laidLooks := .later }
def TableReadsUptoCardSaid : Prop := Claim7.holds Tryz.pinned (.plain (OpenSpec.upto tableReadsSpec)) tableReadsUptoCard

/-- THE SECOND FORM's CARD OF 'cabinetrylaw03.TableBack'. -/
def tableBackUptoCard : Claim7 := { stood := { row := tableBackUptoRow, standIns := [], harness := (true, "6d460b44cf214a2f25816489b60794dbf23fc0abfca9b62906662ee06b5ef12a"), looks := false }, kinds := [], alts := [], laidByText := true, laidKinds := [.data, .pinned], laidTests := true, laidLooks := .later }
def TableBackUptoCardSaid : Prop := Claim7.holds Tryz.pinned (.plain (OpenSpec.upto tableBackSpec)) tableBackUptoCard

/-- THE SECOND FORM's CARD OF 'cabinetrylaw03.TableSpoils'. -/
def tableSpoilsUptoCard : Claim7 := { stood := { row := tableSpoilsUptoRow, standIns := [], harness := (true, "6d460b44cf214a2f25816489b60794dbf23fc0abfca9b62906662ee06b5ef12a"), looks := false }, kinds := [], alts := [], laidByText := true, laidKinds := [.data, .pinned], laidTests := true, laidLooks := .later }
def TableSpoilsUptoCardSaid : Prop := Claim7.holds Tryz.pinned (.plain (OpenSpec.upto tableSpoilsSpec)) tableSpoilsUptoCard

/-- THE SECOND FORM's CARD OF 'cabinetrylaw03.TableModifies'. -/
def tableModifiesUptoCard : Claim7 := { stood := { row := tableModifiesUptoRow, standIns := [], harness := (true, "6d460b44cf214a2f25816489b60794dbf23fc0abfca9b62906662ee06b5ef12a"), looks := false }, kinds := [], alts := [], laidByText := true, laidKinds := [.data, .pinned], laidTests := true, laidLooks := .later }
def TableModifiesUptoCardSaid : Prop := Claim7.holds Tryz.pinned (.plain (OpenSpec.upto tableModifiesSpec)) tableModifiesUptoCard
end Rows
end Go.Proofs.YtecmfdfhpldmmaaGreatDoor
