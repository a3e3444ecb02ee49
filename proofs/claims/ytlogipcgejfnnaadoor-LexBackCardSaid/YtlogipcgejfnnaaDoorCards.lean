/-
  DERIVED. GIVEN WITH THE SEED: THE CARDS: each row of YtlogipcgejfnnaaDoorRows.lean that lists a variable, with what it lists TIED to the program's text (the seventh form; the later family's looks); each row that meets fmt, with fmt's text TOLD by the authors' own Lean function (tested against real Go, not proved from fmt's source: count such statements apart). THE CARD IS WHAT COUNTS. Prove the row's statement (the work); the ties are given (YtlogipcgejfnnaaDoorTie.lean); close each card by the builder's one call (the guide's Derived/Test/ToyasCard.lean, 'card_holds'). Laid BY PROGRAM, IN A SANDBOX (cutbox-door.mjs). By AI agents, Wed Nov 11 2026. No macro, syntax, notation, axiom, sorry.
-/
import Derived.Test.YtlogipcgejfnnaaDoorRows
import GoSem.ClaimSeven
namespace Go.Proofs.YtlogipcgejfnnaaDoor
namespace Rows

/-- THE TIED CARD OF 'cabinetrylaw05.LexBack'. -/
def lexBackCard : Claim7 := { stood := { row := lexBackRow, standIns := [], harness := (true, "5f5b10e0e27fa839965f4da26f6076caeffafc20329f7214049fee511b1d58ba"), looks := false }, kinds := [], alts := [], laidByText := true, laidKinds := [.data, .pinned, .pinned], laidTests := true, laidLooks := .later }
def LexBackCardSaid : Prop := Claim7.holds Tryd.pinned (.plain (OpenSpec.ofChange lexBackSpec)) lexBackCard

/-- THE TIED CARD OF 'cabinetrylaw05.LexSames'. -/
def lexSamesCard : Claim7 := { stood := { row := lexSamesRow, standIns := [], harness := (true, "5f5b10e0e27fa839965f4da26f6076caeffafc20329f7214049fee511b1d58ba"), looks := false }, kinds := [], alts := [], laidByText := true, laidKinds := [.data, .pinned, .pinned], laidTests := true, laidLooks := .later }
def LexSamesCardSaid : Prop := Claim7.holds Tryd.pinned (.plain (OpenSpec.ofChange lexSamesSpec)) lexSamesCard

/-- THE TIED CARD OF 'cabinetrylaw05.LexWords'. -/
def lexWordsCard : Claim7 := { stood := { row := lexWordsRow, standIns := [], harness := (true, "5f5b10e0e27fa839965f4da26f6076caeffafc20329f7214049fee511b1d58ba"), looks := false }, kinds := [], alts := [], laidByText := true, laidKinds := [.data, .pinned, .pinned], laidTests := true, laidLooks := .later }
def LexWordsCardSaid : Prop := Claim7.holds Tryd.pinned (.plain (OpenSpec.ofChange lexWordsSpec)) lexWordsCard

/-- THE SECOND FORM's CARD OF 'cabinetrylaw05.LexBack'. -/
def lexBackUptoCard : Claim7 := { stood := { row := lexBackUptoRow, standIns := [], harness := (true, "5f5b10e0e27fa839965f4da26f6076caeffafc20329f7214049fee511b1d58ba"), looks := false }, kinds := [], alts := [], laidByText := true, laidKinds := [.data, .pinned, .pinned], laidTests := true, laidLooks := .later }
def LexBackUptoCardSaid : Prop := Claim7.holds Tryd.pinned (.plain (OpenSpec.upto lexBackSpec)) lexBackUptoCard

/-- THE SECOND FORM's CARD OF 'cabinetrylaw05.LexSames'. -/
def lexSamesUptoCard : Claim7 := { stood := { row := lexSamesUptoRow, standIns := [], harness := (true, "5f5b10e0e27fa839965f4da26f6076caeffafc20329f7214049fee511b1d58ba"), looks := false }, kinds := [], alts := [], laidByText := true, laidKinds := [.data, .pinned, .pinned], laidTests := true, laidLooks := .later }
def LexSamesUptoCardSaid : Prop := Claim7.holds Tryd.pinned (.plain (OpenSpec.upto lexSamesSpec)) lexSamesUptoCard

/-- THE SECOND FORM's CARD OF 'cabinetrylaw05.LexWords'. -/
def lexWordsUptoCard : Claim7 := { stood := { row := lexWordsUptoRow, standIns := [], harness := (true, "5f5b10e0e27fa839965f4da26f6076caeffafc20329f7214049fee511b1d58ba"), looks := false }, kinds := [], alts := [], laidByText := true, laidKinds := [.data, .pinned, .pinned], laidTests := true, laidLooks := .later }
def LexWordsUptoCardSaid : Prop := Claim7.holds Tryd.pinned (.plain (OpenSpec.upto lexWordsSpec)) lexWordsUptoCard
end Rows
end Go.Proofs.YtlogipcgejfnnaaDoor
