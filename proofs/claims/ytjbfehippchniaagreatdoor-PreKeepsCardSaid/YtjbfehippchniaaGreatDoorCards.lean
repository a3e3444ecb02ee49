/-
  DERIVED. GIVEN WITH THE SEED: THE CARDS: each row of YtjbfehippchniaaGreatDoorRows.lean that lists a variable, with what it lists TIED to the program's text (the seventh form; the later family's looks); each row that meets fmt, with fmt's text TOLD by the authors' own Lean function (tested against real Go, not proved from fmt's source: count such statements apart). THE CARD IS WHAT COUNTS. Prove the row's statement (the work); the ties are given (YtjbfehippchniaaGreatDoorTie.lean); close each card by the builder's one call (the guide's Derived/Test/ToyasCard.lean, 'card_holds'). Laid BY PROGRAM, IN A SANDBOX (cutbox-door.mjs). By AI agents, Wed Nov 11 2026. No macro, syntax, notation, axiom, sorry.
-/
import Derived.Test.YtjbfehippchniaaGreatDoorRows
import GoSem.ClaimSeven
namespace Go.Proofs.YtjbfehippchniaaGreatDoor
namespace Rows

/-- THE TIED CARD OF 'cabinetrylaw07.PreUndone'. -/
def preUndoneCard : Claim7 := { stood := { row := preUndoneRow, standIns := [], harness := (true, "a60000680e0262a30ddd2a70009de127dfad4d1b17acd8d1b23778b49617e8a7"), looks := false }, kinds := [], alts := [], laidByText := true, laidKinds := [.data, .pinned, .pinned], laidTests := true, laidLooks := .later }
def PreUndoneCardSaid : Prop := Claim7.holds Tryz.pinned (.plain (OpenSpec.ofChange preUndoneSpec)) preUndoneCard

/-- THE TIED CARD OF 'cabinetrylaw07.PreKeeps'. -/
def preKeepsCard : Claim7 := { stood := { row := preKeepsRow, standIns := [], harness := (true, "a60000680e0262a30ddd2a70009de127dfad4d1b17acd8d1b23778b49617e8a7"), looks := false }, kinds := [], alts := [], laidByText := true, laidKinds := [.data, .pinned, .pinned], laidTests := true, laidLooks := .later }
def PreKeepsCardSaid : Prop := Claim7.holds Tryz.pinned (.plain (OpenSpec.ofChange preKeepsSpec)) preKeepsCard

/-- THE SECOND FORM's CARD OF 'cabinetrylaw07.PreUndone'. -/
def preUndoneUptoCard : Claim7 := { stood := { row := preUndoneUptoRow, standIns := [], harness := (true, "a60000680e0262a30ddd2a70009de127dfad4d1b17acd8d1b23778b49617e8a7"), looks := false }, kinds := [], alts := [], laidByText := true, laidKinds := [.data, .pinned, .pinned], laidTests := true, laidLooks := .later }
def PreUndoneUptoCardSaid : Prop := Claim7.holds Tryz.pinned (.plain (OpenSpec.upto preUndoneSpec)) preUndoneUptoCard

/-- THE SECOND FORM's CARD OF 'cabinetrylaw07.PreKeeps'. -/
def preKeepsUptoCard : Claim7 := { stood := { row := preKeepsUptoRow, standIns := [], harness := (true, "a60000680e0262a30ddd2a70009de127dfad4d1b17acd8d1b23778b49617e8a7"), looks := false }, kinds := [], alts := [], laidByText := true, laidKinds := [.data, .pinned, .pinned], laidTests := true, laidLooks := .later }
def PreKeepsUptoCardSaid : Prop := Claim7.holds Tryz.pinned (.plain (OpenSpec.upto preKeepsSpec)) preKeepsUptoCard
end Rows
end Go.Proofs.YtjbfehippchniaaGreatDoor
