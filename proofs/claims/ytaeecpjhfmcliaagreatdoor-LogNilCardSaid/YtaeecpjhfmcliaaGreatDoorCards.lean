/-
  DERIVED. GIVEN WITH THE SEED: THE CARDS: each row of YtaeecpjhfmcliaaGreatDoorRows.lean that lists a variable, with what it lists TIED to the program's text (the seventh form; the later family's looks); each row that meets fmt, with fmt's text TOLD by the authors' own Lean function (tested against real Go, not proved from fmt's source: count such statements apart). THE CARD IS WHAT COUNTS. Prove the row's statement (the work); the ties are given (YtaeecpjhfmcliaaGreatDoorTie.lean); close each card by the builder's one call (the guide's Derived/Test/ToyasCard.lean, 'card_holds'). Laid BY PROGRAM, IN A SANDBOX (cutbox-door.mjs). By AI agents, Wed Nov 11 2026. No macro, syntax, notation, axiom, sorry.
-/
import Derived.Test.YtaeecpjhfmcliaaGreatDoorRows
import GoSem.ClaimSeven
namespace Go.Proofs.YtaeecpjhfmcliaaGreatDoor
namespace Rows

/-- THE TIED CARD OF 'cabinetrylaw18.LogOpens'. -/
def logOpensCard : Claim7 := { stood := { row := logOpensRow, standIns := [], harness := (true, "8c196b2ba2d5f0b37e87e622ad7cd8624f700fb9fb7b5634ec99eabd8e3e4e84"), looks := false }, kinds := [], alts := [], laidByText := true, laidKinds := [.data, .pinned], laidTests := true, laidLooks := .later }
def LogOpensCardSaid : Prop := Claim7.holds Tryz.pinned (.plain (OpenSpec.ofChange logOpensSpec)) logOpensCard

/-- THE TIED CARD OF 'cabinetrylaw18.LogPlays'. -/
def logPlaysCard : Claim7 := { stood := { row := logPlaysRow, standIns := [], harness := (true, "8c196b2ba2d5f0b37e87e622ad7cd8624f700fb9fb7b5634ec99eabd8e3e4e84"), looks := false }, kinds := [], alts := [], laidByText := true, laidKinds := [.data, .pinned], laidTests := true, laidLooks := .later }
def LogPlaysCardSaid : Prop := Claim7.holds Tryz.pinned (.plain (OpenSpec.ofChange logPlaysSpec)) logPlaysCard

/-- THE TIED CARD OF 'cabinetrylaw18.LogFalls'. -/
def logFallsCard : Claim7 := { stood := { row := logFallsRow, standIns := [], harness := (true, "8c196b2ba2d5f0b37e87e622ad7cd8624f700fb9fb7b5634ec99eabd8e3e4e84"), looks := false }, kinds := [], alts := [], laidByText := true, laidKinds := [.data, .pinned], laidTests := true, laidLooks := .later }
def LogFallsCardSaid : Prop := Claim7.holds Tryz.pinned (.plain (OpenSpec.ofChange logFallsSpec)) logFallsCard

/-- THE TIED CARD OF 'cabinetrylaw18.LogEach'. -/
def logEachCard : Claim7 := { stood := { row := logEachRow, standIns := [], harness := (true, "8c196b2ba2d5f0b37e87e622ad7cd8624f700fb9fb7b5634ec99eabd8e3e4e84"), looks := false }, kinds := [], alts := [], laidByText := true, laidKinds := [.data, .pinned], laidTests := true, laidLooks := .later }
def LogEachCardSaid : Prop := Claim7.holds Tryz.pinned (.plain (OpenSpec.ofChange logEachSpec)) logEachCard

/-- THE TIED CARD OF 'cabinetrylaw18.LogRecovers'. -/
def logRecoversCard : Claim7 := { stood := { row := logRecoversRow, standIns := [], harness := (true, "8c196b2ba2d5f0b37e87e622ad7cd8624f700fb9fb7b5634ec99eabd8e3e4e84"), looks := false }, kinds := [], alts := [], laidByText := true, laidKinds := [.data, .pinned], laidTests := true, laidLooks := .later }
def LogRecoversCardSaid : Prop := Claim7.holds Tryz.pinned (.plain (OpenSpec.ofChange logRecoversSpec)) logRecoversCard

/-- THE TIED CARD OF 'cabinetrylaw18.LogNil'. -/
def logNilCard : Claim7 := { stood := { row := logNilRow, standIns := [], harness := (true, "8c196b2ba2d5f0b37e87e622ad7cd8624f700fb9fb7b5634ec99eabd8e3e4e84"), looks := false }, kinds := [], alts := [], laidByText := true, laidKinds := [.data, .pinned], laidTests := true, laidLooks := .later }
def LogNilCardSaid : Prop := Claim7.holds Tryz.pinned (.plain (OpenSpec.ofChange logNilSpec)) logNilCard

/-- THE TIED CARD OF 'cabinetrylaw18.LogGoesOn'. -/
def logGoesOnCard : Claim7 := { stood := { row := logGoesOnRow, standIns := [], harness := (true, "8c196b2ba2d5f0b37e87e622ad7cd8624f700fb9fb7b5634ec99eabd8e3e4e84"), looks := false }, kinds := [], alts := [], laidByText := true, laidKinds := [.data, .pinned], laidTests := true, laidLooks := .later }
def LogGoesOnCardSaid : Prop := Claim7.holds Tryz.pinned (.plain (OpenSpec.ofChange logGoesOnSpec)) logGoesOnCard

/-- THE SECOND FORM's CARD OF 'cabinetrylaw18.LogOpens'. -/
def logOpensUptoCard : Claim7 := { stood := { row := logOpensUptoRow, standIns := [], harness := (true, "8c196b2ba2d5f0b37e87e622ad7cd8624f700fb9fb7b5634ec99eabd8e3e4e84"), looks := false }, kinds := [], alts := [], laidByText := true, laidKinds := [.data, .pinned], laidTests := true, laidLooks := .later }
def LogOpensUptoCardSaid : Prop := Claim7.holds Tryz.pinned (.plain (OpenSpec.upto logOpensSpec)) logOpensUptoCard

/-- THE SECOND FORM's CARD OF 'cabinetrylaw18.LogPlays'. -/
def logPlaysUptoCard : Claim7 := { stood := { row := logPlaysUptoRow, standIns := [], harness := (true, "8c196b2ba2d5f0b37e87e622ad7cd8624f700fb9fb7b5634ec99eabd8e3e4e84"), looks := false }, kinds := [], alts := [], laidByText := true, laidKinds := [.data, .pinned], laidTests := true, laidLooks := .later }
def LogPlaysUptoCardSaid : Prop := Claim7.holds Tryz.pinned (.plain (OpenSpec.upto logPlaysSpec)) logPlaysUptoCard

/-- THE SECOND FORM's CARD OF 'cabinetrylaw18.LogFalls'. -/
def logFallsUptoCard : Claim7 := { stood := { row := logFallsUptoRow, standIns := [], harness := (true, "8c196b2ba2d5f0b37e87e622ad7cd8624f700fb9fb7b5634ec99eabd8e3e4e84"), looks := false }, kinds := [], alts := [], laidByText := true, laidKinds := [.data, .pinned], laidTests := true, laidLooks := .later }
def LogFallsUptoCardSaid : Prop := Claim7.holds Tryz.pinned (.plain (OpenSpec.upto logFallsSpec)) logFallsUptoCard

/-- THE SECOND FORM's CARD OF 'cabinetrylaw18.LogEach'. -/
def logEachUptoCard : Claim7 := { stood := { row := logEachUptoRow, standIns := [], harness := (true, "8c196b2ba2d5f0b37e87e622ad7cd8624f700fb9fb7b5634ec99eabd8e3e4e84"), looks := false }, kinds := [], alts := [], laidByText := true, laidKinds := [.data, .pinned], laidTests := true, laidLooks := .later }
def LogEachUptoCardSaid : Prop := Claim7.holds Tryz.pinned (.plain (OpenSpec.upto logEachSpec)) logEachUptoCard

/-- THE SECOND FORM's CARD OF 'cabinetrylaw18.LogRecovers'. -/
def logRecoversUptoCard : Claim7 := { stood := { row := logRecoversUptoRow, standIns := [], harness := (true, "8c196b2ba2d5f0b37e87e622ad7cd8624f700fb9fb7b5634ec99eabd8e3e4e84"), looks := false }, kinds := [], alts := [], laidByText := true, laidKinds := [.data, .pinned], laidTests := true, laidLooks := .later }
def LogRecoversUptoCardSaid : Prop := Claim7.holds Tryz.pinned (.plain (OpenSpec.upto logRecoversSpec)) logRecoversUptoCard

/-- THE SECOND FORM's CARD OF 'cabinetrylaw18.LogNil'. -/
def logNilUptoCard : Claim7 := { stood := { row := logNilUptoRow, standIns := [], harness := (true, "8c196b2ba2d5f0b37e87e622ad7cd8624f700fb9fb7b5634ec99eabd8e3e4e84"), looks := false }, kinds := [], alts := [], laidByText := true, laidKinds := [.data, .pinned], laidTests := true, laidLooks := .later }
def LogNilUptoCardSaid : Prop := Claim7.holds Tryz.pinned (.plain (OpenSpec.upto logNilSpec)) logNilUptoCard

/-- THE SECOND FORM's CARD OF 'cabinetrylaw18.LogGoesOn'. -/
def logGoesOnUptoCard : Claim7 := { stood := { row := logGoesOnUptoRow, standIns := [], harness := (true, "8c196b2ba2d5f0b37e87e622ad7cd8624f700fb9fb7b5634ec99eabd8e3e4e84"), looks := false }, kinds := [], alts := [], laidByText := true, laidKinds := [.data, .pinned], laidTests := true, laidLooks := .later }
def LogGoesOnUptoCardSaid : Prop := Claim7.holds Tryz.pinned (.plain (OpenSpec.upto logGoesOnSpec)) logGoesOnUptoCard
end Rows
end Go.Proofs.YtaeecpjhfmcliaaGreatDoor
