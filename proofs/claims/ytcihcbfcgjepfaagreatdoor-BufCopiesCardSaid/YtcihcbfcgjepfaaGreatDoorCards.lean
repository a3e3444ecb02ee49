/-
  DERIVED. GIVEN WITH THE SEED: THE CARDS: each row of YtcihcbfcgjepfaaGreatDoorRows.lean that lists a variable, with what it lists TIED to the program's text (the seventh form; the later family's looks); each row that meets fmt, with fmt's text TOLD by the authors' own Lean function (tested against real Go, not proved from fmt's source: count such statements apart). THE CARD IS WHAT COUNTS. Prove the row's statement (the work); the ties are given (YtcihcbfcgjepfaaGreatDoorTie.lean); close each card by the builder's one call (the guide's Derived/Test/ToyasCard.lean, 'card_holds'). Laid BY PROGRAM, IN A SANDBOX (cutbox-door.mjs). By AI agents, Wed Nov 11 2026. No macro, syntax, notation, axiom, sorry.
-/
import Derived.Test.YtcihcbfcgjepfaaGreatDoorRows
import GoSem.ClaimSeven
namespace Go.Proofs.YtcihcbfcgjepfaaGreatDoor
namespace Rows

/-- THE TIED CARD OF 'cabinetrylaw17.BufTwo'. -/
def bufTwoCard : Claim7 := { stood := { row := bufTwoRow, standIns := [], harness := (true, "50ecca2c2abfc3f5ea0ffb317becf0f515af161f7347639d0b99f3253fe5895a"), looks := true }, kinds := [], alts := [], laidByText := true, laidKinds := [.data, .pinned], laidTests := true, laidLooks := .later }
def BufTwoCardSaid : Prop := Claim7.holds Tryz.pinned (.plain (OpenSpec.ofChange bufTwoSpec)) bufTwoCard

/-- THE TIED CARD OF 'cabinetrylaw17.BufStores'. -/
def bufStoresCard : Claim7 := { stood := { row := bufStoresRow, standIns := [], harness := (true, "50ecca2c2abfc3f5ea0ffb317becf0f515af161f7347639d0b99f3253fe5895a"), looks := true }, kinds := [], alts := [], laidByText := true, laidKinds := [.data, .pinned], laidTests := true, laidLooks := .later }
def BufStoresCardSaid : Prop := Claim7.holds Tryz.pinned (.plain (OpenSpec.ofChange bufStoresSpec)) bufStoresCard

/-- THE TIED CARD OF 'cabinetrylaw17.BufSees'. -/
def bufSeesCard : Claim7 := { stood := { row := bufSeesRow, standIns := [], harness := (true, "50ecca2c2abfc3f5ea0ffb317becf0f515af161f7347639d0b99f3253fe5895a"), looks := true }, kinds := [], alts := [], laidByText := true, laidKinds := [.data, .pinned], laidTests := true, laidLooks := .later }
def BufSeesCardSaid : Prop := Claim7.holds Tryz.pinned (.plain (OpenSpec.ofChange bufSeesSpec)) bufSeesCard

/-- THE TIED CARD OF 'cabinetrylaw17.BufPlays'. -/
def bufPlaysCard : Claim7 := { stood := { row := bufPlaysRow, standIns := [], harness := (true, "50ecca2c2abfc3f5ea0ffb317becf0f515af161f7347639d0b99f3253fe5895a"), looks := true }, kinds := [], alts := [], laidByText := true, laidKinds := [.data, .pinned], laidTests := true, laidLooks := .later }
def BufPlaysCardSaid : Prop := Claim7.holds Tryz.pinned (.plain (OpenSpec.ofChange bufPlaysSpec)) bufPlaysCard

/-- THE TIED CARD OF 'cabinetrylaw17.BufNils'. -/
def bufNilsCard : Claim7 := { stood := { row := bufNilsRow, standIns := [], harness := (true, "50ecca2c2abfc3f5ea0ffb317becf0f515af161f7347639d0b99f3253fe5895a"), looks := true }, kinds := [], alts := [], laidByText := true, laidKinds := [.data, .pinned], laidTests := true, laidLooks := .later }
def BufNilsCardSaid : Prop := Claim7.holds Tryz.pinned (.plain (OpenSpec.ofChange bufNilsSpec)) bufNilsCard

/-- THE TIED CARD OF 'cabinetrylaw17.BufCopies'. -/
def bufCopiesCard : Claim7 := { stood := { row := bufCopiesRow, standIns := [], harness := (true, "50ecca2c2abfc3f5ea0ffb317becf0f515af161f7347639d0b99f3253fe5895a"), looks := true }, kinds := [], alts := [], laidByText := true, laidKinds := [.data, .pinned], laidTests := true, laidLooks := .later }
def BufCopiesCardSaid : Prop := Claim7.holds Tryz.pinned (.plain (OpenSpec.ofChange bufCopiesSpec)) bufCopiesCard

/-- THE SECOND FORM's CARD OF 'cabinetrylaw17.BufTwo'. -/
def bufTwoUptoCard : Claim7 := { stood := { row := bufTwoUptoRow, standIns := [], harness := (true, "50ecca2c2abfc3f5ea0ffb317becf0f515af161f7347639d0b99f3253fe5895a"), looks := true }, kinds := [], alts := [], laidByText := true, laidKinds := [.data, .pinned], laidTests := true, laidLooks := .later }
def BufTwoUptoCardSaid : Prop := Claim7.holds Tryz.pinned (.plain (OpenSpec.upto bufTwoSpec)) bufTwoUptoCard

/-- THE SECOND FORM's CARD OF 'cabinetrylaw17.BufStores'. -/
def bufStoresUptoCard : Claim7 := { stood := { row := bufStoresUptoRow, standIns := [], harness := (true, "50ecca2c2abfc3f5ea0ffb317becf0f515af161f7347639d0b99f3253fe5895a"), looks := true }, kinds := [], alts := [], laidByText := true, laidKinds := [.data, .pinned], laidTests := true, laidLooks := .later }
def BufStoresUptoCardSaid : Prop := Claim7.holds Tryz.pinned (.plain (OpenSpec.upto bufStoresSpec)) bufStoresUptoCard

/-- THE SECOND FORM's CARD OF 'cabinetrylaw17.BufSees'. -/
def bufSeesUptoCard : Claim7 := { stood := { row := bufSeesUptoRow, standIns := [], harness := (true, "50ecca2c2abfc3f5ea0ffb317becf0f515af161f7347639d0b99f3253fe5895a"), looks := true }, kinds := [], alts := [], laidByText := true, laidKinds := [.data, .pinned], laidTests := true, laidLooks := .later }
def BufSeesUptoCardSaid : Prop := Claim7.holds Tryz.pinned (.plain (OpenSpec.upto bufSeesSpec)) bufSeesUptoCard

/-- THE SECOND FORM's CARD OF 'cabinetrylaw17.BufPlays'. -/
def bufPlaysUptoCard : Claim7 := { stood := { row := bufPlaysUptoRow, standIns := [], harness := (true, "50ecca2c2abfc3f5ea0ffb317becf0f515af161f7347639d0b99f3253fe5895a"), looks := true }, kinds := [], alts := [], laidByText := true, laidKinds := [.data, .pinned], laidTests := true, laidLooks := .later }
def BufPlaysUptoCardSaid : Prop := Claim7.holds Tryz.pinned (.plain (OpenSpec.upto bufPlaysSpec)) bufPlaysUptoCard

/-- THE SECOND FORM's CARD OF 'cabinetrylaw17.BufNils'. -/
def bufNilsUptoCard : Claim7 := { stood := { row := bufNilsUptoRow, standIns := [], harness := (true, "50ecca2c2abfc3f5ea0ffb317becf0f515af161f7347639d0b99f3253fe5895a"), looks := true }, kinds := [], alts := [], laidByText := true, laidKinds := [.data, .pinned], laidTests := true, laidLooks := .later }
def BufNilsUptoCardSaid : Prop := Claim7.holds Tryz.pinned (.plain (OpenSpec.upto bufNilsSpec)) bufNilsUptoCard

/-- THE SECOND FORM's CARD OF 'cabinetrylaw17.BufCopies'. -/
def bufCopiesUptoCard : Claim7 := { stood := { row := bufCopiesUptoRow, standIns := [], harness := (true, "50ecca2c2abfc3f5ea0ffb317becf0f515af161f7347639d0b99f3253fe5895a"), looks := true }, kinds := [], alts := [], laidByText := true, laidKinds := [.data, .pinned], laidTests := true, laidLooks := .later }
def BufCopiesUptoCardSaid : Prop := Claim7.holds Tryz.pinned (.plain (OpenSpec.upto bufCopiesSpec)) bufCopiesUptoCard
end Rows
end Go.Proofs.YtcihcbfcgjepfaaGreatDoor
