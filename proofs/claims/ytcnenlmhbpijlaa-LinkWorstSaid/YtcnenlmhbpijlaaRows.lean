/-
  No cell of these rows narrows 'for every input' (looked for: loops, veiled, ifaces, maps, wideKeys, modest, calm, conditions, laid).
  DERIVED. THE GIVEN ROWS OF THIS SEAT. 11 by the template 'for every input the law returns true; each argument reads behind the call as it read before'; 0 by the template 'total and deterministic' (their statements: YtcnenlmhbpijlaaTotals.lean).
  GIVEN WITH THE SEED: the statements are not yours to turn. If you find one false, say at which input.
  Laid BY PROGRAM, IN A SANDBOX (cutbox-rows.mjs): the forced cells as the released guide's own fill.sh prints them over the translation 778e920da34cd189… (all of the seat's roots in one cut). By AI agents, Wed Nov 11 2026. No macro, syntax, notation, axiom, sorry.
-/
import Derived.Test.YtcnenlmhbpijlaaChecked
import GoSem.Claim
import GoSem.ClaimJoined
import GoSem.ClaimMapViews
import Derived.JoinedTies
import Derived.KernelRfl
namespace Go.Proofs.Ytcnenlmhbpijlaa
/- THE CELL 'sum', in the pinned program and in every row, IS THE sha256 OF THE DUMP (.gsa) THAT YtcnenlmhbpijlaaProg.lean LOADS. Nothing in Lean hashes anything: it is a label: what it is worth is what the hold of that sum in a sandbox is worth. -/
noncomputable def Try.pinned : Pinned := { name := "ytcnenlmhbpijlaa", sum := "778e920da34cd1893b0713c1aa97a59d77b77add12fe0461c2036fb5d7ebde6e", checked := Try.checked }
namespace Rows
def none {H : Type} : Left H := { results := [], args := [] }

/-- 'cabinetrylaw24.LinkWhole': WHATEVER THE INPUT: true; the input reads as it did. -/
def linkWholeSpec : ChangeSpec := { name := "linkWhole", fn := fun _ => fun
  | [d1, d2, d3] => { results := [.lit (.bool true)], args := [d1, d2, d3] }
  | _ => none }
def linkWholeRow : OpenClaim := { program := "ytcnenlmhbpijlaa", sum := "778e920da34cd1893b0713c1aa97a59d77b77add12fe0461c2036fb5d7ebde6e", func := "cabinetry/cabinetrylaw24.LinkWhole", spec := "linkWhole", unfollowed := true, recurses := true, plainKeys := false, apart := false }
def LinkWholeSaid : Prop := linkWholeRow.holds Try.pinned (OpenSpec.ofChange linkWholeSpec)

/-- ITS FALSE NEIGHBOUR: 'it returns false'. Refute it at one input. -/
def linkWholeWrong : ChangeSpec := { name := "linkWhole", fn := fun _ => fun
  | [d1, d2, d3] => { results := [.lit (.bool false)], args := [d1, d2, d3] }
  | _ => none }
def LinkWholeWrongFalsely : Prop := linkWholeRow.holds Try.pinned (OpenSpec.ofChange linkWholeWrong)

/-- 'cabinetrylaw24.LinkLoads': WHATEVER THE INPUT: true; the input reads as it did. -/
def linkLoadsSpec : ChangeSpec := { name := "linkLoads", fn := fun _ => fun
  | [d1, d2, d3] => { results := [.lit (.bool true)], args := [d1, d2, d3] }
  | _ => none }
def linkLoadsRow : OpenClaim := { program := "ytcnenlmhbpijlaa", sum := "778e920da34cd1893b0713c1aa97a59d77b77add12fe0461c2036fb5d7ebde6e", func := "cabinetry/cabinetrylaw24.LinkLoads", spec := "linkLoads", unfollowed := true, recurses := true, plainKeys := false, apart := false }
def LinkLoadsSaid : Prop := linkLoadsRow.holds Try.pinned (OpenSpec.ofChange linkLoadsSpec)

/-- ITS FALSE NEIGHBOUR: 'it returns false'. Refute it at one input. -/
def linkLoadsWrong : ChangeSpec := { name := "linkLoads", fn := fun _ => fun
  | [d1, d2, d3] => { results := [.lit (.bool false)], args := [d1, d2, d3] }
  | _ => none }
def LinkLoadsWrongFalsely : Prop := linkLoadsRow.holds Try.pinned (OpenSpec.ofChange linkLoadsWrong)

/-- 'cabinetrylaw24.LinkFits': WHATEVER THE INPUT: true; the input reads as it did. -/
def linkFitsSpec : ChangeSpec := { name := "linkFits", fn := fun _ => fun
  | [d] => { results := [.lit (.bool true)], args := [d] }
  | _ => none }
def linkFitsRow : OpenClaim := { program := "ytcnenlmhbpijlaa", sum := "778e920da34cd1893b0713c1aa97a59d77b77add12fe0461c2036fb5d7ebde6e", func := "cabinetry/cabinetrylaw24.LinkFits", spec := "linkFits", unfollowed := true, recurses := true, plainKeys := false, apart := false }
def LinkFitsSaid : Prop := linkFitsRow.holds Try.pinned (OpenSpec.ofChange linkFitsSpec)

/-- ITS FALSE NEIGHBOUR: 'it returns false'. Refute it at one input. -/
def linkFitsWrong : ChangeSpec := { name := "linkFits", fn := fun _ => fun
  | [d] => { results := [.lit (.bool false)], args := [d] }
  | _ => none }
def LinkFitsWrongFalsely : Prop := linkFitsRow.holds Try.pinned (OpenSpec.ofChange linkFitsWrong)

/-- 'cabinetrylaw24.LinkApart': WHATEVER THE INPUT: true; the input reads as it did. -/
def linkApartSpec : ChangeSpec := { name := "linkApart", fn := fun _ => fun
  | [d] => { results := [.lit (.bool true)], args := [d] }
  | _ => none }
def linkApartRow : OpenClaim := { program := "ytcnenlmhbpijlaa", sum := "778e920da34cd1893b0713c1aa97a59d77b77add12fe0461c2036fb5d7ebde6e", func := "cabinetry/cabinetrylaw24.LinkApart", spec := "linkApart", unfollowed := true, recurses := true, plainKeys := false, apart := false }
def LinkApartSaid : Prop := linkApartRow.holds Try.pinned (OpenSpec.ofChange linkApartSpec)

/-- ITS FALSE NEIGHBOUR: 'it returns false'. Refute it at one input. -/
def linkApartWrong : ChangeSpec := { name := "linkApart", fn := fun _ => fun
  | [d] => { results := [.lit (.bool false)], args := [d] }
  | _ => none }
def LinkApartWrongFalsely : Prop := linkApartRow.holds Try.pinned (OpenSpec.ofChange linkApartWrong)

/-- 'cabinetrylaw24.LinkPlaces': WHATEVER THE INPUT: true; the input reads as it did. -/
def linkPlacesSpec : ChangeSpec := { name := "linkPlaces", fn := fun _ => fun
  | [d] => { results := [.lit (.bool true)], args := [d] }
  | _ => none }
def linkPlacesRow : OpenClaim := { program := "ytcnenlmhbpijlaa", sum := "778e920da34cd1893b0713c1aa97a59d77b77add12fe0461c2036fb5d7ebde6e", func := "cabinetry/cabinetrylaw24.LinkPlaces", spec := "linkPlaces", unfollowed := true, recurses := true, plainKeys := false, apart := false }
def LinkPlacesSaid : Prop := linkPlacesRow.holds Try.pinned (OpenSpec.ofChange linkPlacesSpec)

/-- ITS FALSE NEIGHBOUR: 'it returns false'. Refute it at one input. -/
def linkPlacesWrong : ChangeSpec := { name := "linkPlaces", fn := fun _ => fun
  | [d] => { results := [.lit (.bool false)], args := [d] }
  | _ => none }
def LinkPlacesWrongFalsely : Prop := linkPlacesRow.holds Try.pinned (OpenSpec.ofChange linkPlacesWrong)

/-- 'cabinetrylaw24.LinkReaches': WHATEVER THE INPUT: true; the input reads as it did. -/
def linkReachesSpec : ChangeSpec := { name := "linkReaches", fn := fun _ => fun
  | [d1, d2] => { results := [.lit (.bool true)], args := [d1, d2] }
  | _ => none }
def linkReachesRow : OpenClaim := { program := "ytcnenlmhbpijlaa", sum := "778e920da34cd1893b0713c1aa97a59d77b77add12fe0461c2036fb5d7ebde6e", func := "cabinetry/cabinetrylaw24.LinkReaches", spec := "linkReaches", unfollowed := true, recurses := true, plainKeys := false, apart := false }
def LinkReachesSaid : Prop := linkReachesRow.holds Try.pinned (OpenSpec.ofChange linkReachesSpec)

/-- ITS FALSE NEIGHBOUR: 'it returns false'. Refute it at one input. -/
def linkReachesWrong : ChangeSpec := { name := "linkReaches", fn := fun _ => fun
  | [d1, d2] => { results := [.lit (.bool false)], args := [d1, d2] }
  | _ => none }
def LinkReachesWrongFalsely : Prop := linkReachesRow.holds Try.pinned (OpenSpec.ofChange linkReachesWrong)

/-- 'cabinetrylaw24.LinkMoves': WHATEVER THE INPUT: true; the input reads as it did. -/
def linkMovesSpec : ChangeSpec := { name := "linkMoves", fn := fun _ => fun
  | [d1, d2, d3] => { results := [.lit (.bool true)], args := [d1, d2, d3] }
  | _ => none }
def linkMovesRow : OpenClaim := { program := "ytcnenlmhbpijlaa", sum := "778e920da34cd1893b0713c1aa97a59d77b77add12fe0461c2036fb5d7ebde6e", func := "cabinetry/cabinetrylaw24.LinkMoves", spec := "linkMoves", unfollowed := true, recurses := true, plainKeys := false, apart := false }
def LinkMovesSaid : Prop := linkMovesRow.holds Try.pinned (OpenSpec.ofChange linkMovesSpec)

/-- ITS FALSE NEIGHBOUR: 'it returns false'. Refute it at one input. -/
def linkMovesWrong : ChangeSpec := { name := "linkMoves", fn := fun _ => fun
  | [d1, d2, d3] => { results := [.lit (.bool false)], args := [d1, d2, d3] }
  | _ => none }
def LinkMovesWrongFalsely : Prop := linkMovesRow.holds Try.pinned (OpenSpec.ofChange linkMovesWrong)

/-- 'cabinetrylaw24.LinkOrders': WHATEVER THE INPUT: true; the input reads as it did. -/
def linkOrdersSpec : ChangeSpec := { name := "linkOrders", fn := fun _ => fun
  | [d] => { results := [.lit (.bool true)], args := [d] }
  | _ => none }
def linkOrdersRow : OpenClaim := { program := "ytcnenlmhbpijlaa", sum := "778e920da34cd1893b0713c1aa97a59d77b77add12fe0461c2036fb5d7ebde6e", func := "cabinetry/cabinetrylaw24.LinkOrders", spec := "linkOrders", unfollowed := true, recurses := true, plainKeys := false, apart := false }
def LinkOrdersSaid : Prop := linkOrdersRow.holds Try.pinned (OpenSpec.ofChange linkOrdersSpec)

/-- ITS FALSE NEIGHBOUR: 'it returns false'. Refute it at one input. -/
def linkOrdersWrong : ChangeSpec := { name := "linkOrders", fn := fun _ => fun
  | [d] => { results := [.lit (.bool false)], args := [d] }
  | _ => none }
def LinkOrdersWrongFalsely : Prop := linkOrdersRow.holds Try.pinned (OpenSpec.ofChange linkOrdersWrong)

/-- 'cabinetrylaw24.LinkTrims': WHATEVER THE INPUT: true; the input reads as it did. -/
def linkTrimsSpec : ChangeSpec := { name := "linkTrims", fn := fun _ => fun
  | [d1, d2, d3] => { results := [.lit (.bool true)], args := [d1, d2, d3] }
  | _ => none }
def linkTrimsRow : OpenClaim := { program := "ytcnenlmhbpijlaa", sum := "778e920da34cd1893b0713c1aa97a59d77b77add12fe0461c2036fb5d7ebde6e", func := "cabinetry/cabinetrylaw24.LinkTrims", spec := "linkTrims", unfollowed := true, recurses := true, plainKeys := false, apart := false }
def LinkTrimsSaid : Prop := linkTrimsRow.holds Try.pinned (OpenSpec.ofChange linkTrimsSpec)

/-- ITS FALSE NEIGHBOUR: 'it returns false'. Refute it at one input. -/
def linkTrimsWrong : ChangeSpec := { name := "linkTrims", fn := fun _ => fun
  | [d1, d2, d3] => { results := [.lit (.bool false)], args := [d1, d2, d3] }
  | _ => none }
def LinkTrimsWrongFalsely : Prop := linkTrimsRow.holds Try.pinned (OpenSpec.ofChange linkTrimsWrong)

/-- 'cabinetrylaw24.LinkBound': WHATEVER THE INPUT: true; the input reads as it did. -/
def linkBoundSpec : ChangeSpec := { name := "linkBound", fn := fun _ => fun
  | [d1, d2, d3] => { results := [.lit (.bool true)], args := [d1, d2, d3] }
  | _ => none }
def linkBoundRow : OpenClaim := { program := "ytcnenlmhbpijlaa", sum := "778e920da34cd1893b0713c1aa97a59d77b77add12fe0461c2036fb5d7ebde6e", func := "cabinetry/cabinetrylaw24.LinkBound", spec := "linkBound", unfollowed := true, recurses := true, plainKeys := false, apart := false }
def LinkBoundSaid : Prop := linkBoundRow.holds Try.pinned (OpenSpec.ofChange linkBoundSpec)

/-- ITS FALSE NEIGHBOUR: 'it returns false'. Refute it at one input. -/
def linkBoundWrong : ChangeSpec := { name := "linkBound", fn := fun _ => fun
  | [d1, d2, d3] => { results := [.lit (.bool false)], args := [d1, d2, d3] }
  | _ => none }
def LinkBoundWrongFalsely : Prop := linkBoundRow.holds Try.pinned (OpenSpec.ofChange linkBoundWrong)

/-- 'cabinetrylaw24.LinkWorst': WHATEVER THE INPUT: true; the input reads as it did. -/
def linkWorstSpec : ChangeSpec := { name := "linkWorst", fn := fun _ => fun
  | [d1, d2, d3] => { results := [.lit (.bool true)], args := [d1, d2, d3] }
  | _ => none }
def linkWorstRow : OpenClaim := { program := "ytcnenlmhbpijlaa", sum := "778e920da34cd1893b0713c1aa97a59d77b77add12fe0461c2036fb5d7ebde6e", func := "cabinetry/cabinetrylaw24.LinkWorst", spec := "linkWorst", unfollowed := true, recurses := true, plainKeys := false, apart := false }
def LinkWorstSaid : Prop := linkWorstRow.holds Try.pinned (OpenSpec.ofChange linkWorstSpec)

/-- ITS FALSE NEIGHBOUR: 'it returns false'. Refute it at one input. -/
def linkWorstWrong : ChangeSpec := { name := "linkWorst", fn := fun _ => fun
  | [d1, d2, d3] => { results := [.lit (.bool false)], args := [d1, d2, d3] }
  | _ => none }
def LinkWorstWrongFalsely : Prop := linkWorstRow.holds Try.pinned (OpenSpec.ofChange linkWorstWrong)

/- THE SECOND FORM. 'bulk': how many values and letters a reading holds, each counted each time it is reached (what is shared counts as often as it is met; a slice's spare places count too). A statement '..UptoSaid' is the law's where the arguments, and the package variables that the reading takes, are together of bulk at most 1048576: NARROWER than '..Said'. Prove '..Said' where nothing that the law and all that it calls make is longer than what came in: it says more and counts as full. Else prove '..UptoSaid'. A law counts once. -/
mutual
def uptoBulk {H : Type} : DataW H → Nat
  | .lit (.string bytes) => bytes.length + 1
  | .lit _ => 1
  | .nil => 1
  | .ptr d => uptoBulk d + 1
  | .slice elems spare => uptoBulkAll elems + uptoBulkAll spare + 1
  | .agg parts => uptoBulkAll parts + 1
  | .iface _ d => uptoBulk d + 1
  | .map entries => uptoBulkEntries entries + 1
  | .held _ => 1
def uptoBulkAll {H : Type} : List (DataW H) → Nat
  | [] => 0
  | d :: r => uptoBulk d + uptoBulkAll r
def uptoBulkEntries {H : Type} : List (Lit × DataW H) → Nat
  | [] => 0
  | x :: r => uptoBulkEntry x + uptoBulkEntries r
def uptoBulkEntry {H : Type} : Lit × DataW H → Nat
  | (.string bytes, d) => bytes.length + uptoBulk d + 1
  | (_, d) => uptoBulk d + 1
 end
def uptoSmall : (H : Type) → List (DataW H) → Bool := fun _ ds => decide (uptoBulkAll ds ≤ 1048576)
def OpenSpec.upto (s : _root_.Go.ChangeSpec) : _root_.Go.OpenSpec := { _root_.Go.OpenSpec.ofChange s with cond := some uptoSmall }

/-- 'cabinetrylaw24.LinkWhole', WHERE WHAT IT READS IS OF BULK AT MOST 1048576: true; the input reads as it did. -/
def linkWholeUptoRow : OpenClaim := { program := "ytcnenlmhbpijlaa", sum := "778e920da34cd1893b0713c1aa97a59d77b77add12fe0461c2036fb5d7ebde6e", func := "cabinetry/cabinetrylaw24.LinkWhole", spec := "linkWhole", unfollowed := true, recurses := true, plainKeys := false, apart := false, narrowed := true }
def LinkWholeUptoSaid : Prop := linkWholeUptoRow.holds Try.pinned (OpenSpec.upto linkWholeSpec)

/-- 'cabinetrylaw24.LinkLoads', WHERE WHAT IT READS IS OF BULK AT MOST 1048576: true; the input reads as it did. -/
def linkLoadsUptoRow : OpenClaim := { program := "ytcnenlmhbpijlaa", sum := "778e920da34cd1893b0713c1aa97a59d77b77add12fe0461c2036fb5d7ebde6e", func := "cabinetry/cabinetrylaw24.LinkLoads", spec := "linkLoads", unfollowed := true, recurses := true, plainKeys := false, apart := false, narrowed := true }
def LinkLoadsUptoSaid : Prop := linkLoadsUptoRow.holds Try.pinned (OpenSpec.upto linkLoadsSpec)

/-- 'cabinetrylaw24.LinkFits', WHERE WHAT IT READS IS OF BULK AT MOST 1048576: true; the input reads as it did. -/
def linkFitsUptoRow : OpenClaim := { program := "ytcnenlmhbpijlaa", sum := "778e920da34cd1893b0713c1aa97a59d77b77add12fe0461c2036fb5d7ebde6e", func := "cabinetry/cabinetrylaw24.LinkFits", spec := "linkFits", unfollowed := true, recurses := true, plainKeys := false, apart := false, narrowed := true }
def LinkFitsUptoSaid : Prop := linkFitsUptoRow.holds Try.pinned (OpenSpec.upto linkFitsSpec)

/-- 'cabinetrylaw24.LinkApart', WHERE WHAT IT READS IS OF BULK AT MOST 1048576: true; the input reads as it did. -/
def linkApartUptoRow : OpenClaim := { program := "ytcnenlmhbpijlaa", sum := "778e920da34cd1893b0713c1aa97a59d77b77add12fe0461c2036fb5d7ebde6e", func := "cabinetry/cabinetrylaw24.LinkApart", spec := "linkApart", unfollowed := true, recurses := true, plainKeys := false, apart := false, narrowed := true }
def LinkApartUptoSaid : Prop := linkApartUptoRow.holds Try.pinned (OpenSpec.upto linkApartSpec)

/-- 'cabinetrylaw24.LinkPlaces', WHERE WHAT IT READS IS OF BULK AT MOST 1048576: true; the input reads as it did. -/
def linkPlacesUptoRow : OpenClaim := { program := "ytcnenlmhbpijlaa", sum := "778e920da34cd1893b0713c1aa97a59d77b77add12fe0461c2036fb5d7ebde6e", func := "cabinetry/cabinetrylaw24.LinkPlaces", spec := "linkPlaces", unfollowed := true, recurses := true, plainKeys := false, apart := false, narrowed := true }
def LinkPlacesUptoSaid : Prop := linkPlacesUptoRow.holds Try.pinned (OpenSpec.upto linkPlacesSpec)

/-- 'cabinetrylaw24.LinkReaches', WHERE WHAT IT READS IS OF BULK AT MOST 1048576: true; the input reads as it did. -/
def linkReachesUptoRow : OpenClaim := { program := "ytcnenlmhbpijlaa", sum := "778e920da34cd1893b0713c1aa97a59d77b77add12fe0461c2036fb5d7ebde6e", func := "cabinetry/cabinetrylaw24.LinkReaches", spec := "linkReaches", unfollowed := true, recurses := true, plainKeys := false, apart := false, narrowed := true }
def LinkReachesUptoSaid : Prop := linkReachesUptoRow.holds Try.pinned (OpenSpec.upto linkReachesSpec)

/-- 'cabinetrylaw24.LinkMoves', WHERE WHAT IT READS IS OF BULK AT MOST 1048576: true; the input reads as it did. -/
def linkMovesUptoRow : OpenClaim := { program := "ytcnenlmhbpijlaa", sum := "778e920da34cd1893b0713c1aa97a59d77b77add12fe0461c2036fb5d7ebde6e", func := "cabinetry/cabinetrylaw24.LinkMoves", spec := "linkMoves", unfollowed := true, recurses := true, plainKeys := false, apart := false, narrowed := true }
def LinkMovesUptoSaid : Prop := linkMovesUptoRow.holds Try.pinned (OpenSpec.upto linkMovesSpec)

/-- 'cabinetrylaw24.LinkOrders', WHERE WHAT IT READS IS OF BULK AT MOST 1048576: true; the input reads as it did. -/
def linkOrdersUptoRow : OpenClaim := { program := "ytcnenlmhbpijlaa", sum := "778e920da34cd1893b0713c1aa97a59d77b77add12fe0461c2036fb5d7ebde6e", func := "cabinetry/cabinetrylaw24.LinkOrders", spec := "linkOrders", unfollowed := true, recurses := true, plainKeys := false, apart := false, narrowed := true }
def LinkOrdersUptoSaid : Prop := linkOrdersUptoRow.holds Try.pinned (OpenSpec.upto linkOrdersSpec)

/-- 'cabinetrylaw24.LinkTrims', WHERE WHAT IT READS IS OF BULK AT MOST 1048576: true; the input reads as it did. -/
def linkTrimsUptoRow : OpenClaim := { program := "ytcnenlmhbpijlaa", sum := "778e920da34cd1893b0713c1aa97a59d77b77add12fe0461c2036fb5d7ebde6e", func := "cabinetry/cabinetrylaw24.LinkTrims", spec := "linkTrims", unfollowed := true, recurses := true, plainKeys := false, apart := false, narrowed := true }
def LinkTrimsUptoSaid : Prop := linkTrimsUptoRow.holds Try.pinned (OpenSpec.upto linkTrimsSpec)

/-- 'cabinetrylaw24.LinkBound', WHERE WHAT IT READS IS OF BULK AT MOST 1048576: true; the input reads as it did. -/
def linkBoundUptoRow : OpenClaim := { program := "ytcnenlmhbpijlaa", sum := "778e920da34cd1893b0713c1aa97a59d77b77add12fe0461c2036fb5d7ebde6e", func := "cabinetry/cabinetrylaw24.LinkBound", spec := "linkBound", unfollowed := true, recurses := true, plainKeys := false, apart := false, narrowed := true }
def LinkBoundUptoSaid : Prop := linkBoundUptoRow.holds Try.pinned (OpenSpec.upto linkBoundSpec)

/-- 'cabinetrylaw24.LinkWorst', WHERE WHAT IT READS IS OF BULK AT MOST 1048576: true; the input reads as it did. -/
def linkWorstUptoRow : OpenClaim := { program := "ytcnenlmhbpijlaa", sum := "778e920da34cd1893b0713c1aa97a59d77b77add12fe0461c2036fb5d7ebde6e", func := "cabinetry/cabinetrylaw24.LinkWorst", spec := "linkWorst", unfollowed := true, recurses := true, plainKeys := false, apart := false, narrowed := true }
def LinkWorstUptoSaid : Prop := linkWorstUptoRow.holds Try.pinned (OpenSpec.upto linkWorstSpec)

end Rows
end Go.Proofs.Ytcnenlmhbpijlaa
