import Derived.Test.YtcnenlmhbpijlaaLkWide
import Derived.Test.YtcnenlmhbpijlaaShTwelve
/- Link: the keys of Worst's memo. No condition. -/
set_option maxRecDepth 100000
set_option linter.unusedVariables false
set_option linter.unusedSimpArgs false
namespace Go.Proofs.Ytcnenlmhbpijlaa
open Go.Sh Go.RowKit

/-- A state of Worst: the names below, joined; the top; the room; the steps left. -/
structure WK where
  stk : ByteArray
  top : ByteArray
  room : Int
  left : Int
deriving DecidableEq
def WK.row (k : WK) : List Value := [.string k.stk, .string k.top, .int .i64 k.room, .int .i64 k.left]
abbrev ekW : WK → Value := fun k => .agg k.row.toArray
theorem KW : Keys Try.prog 106 ekW := keys_struct (ks := [none, none, some .i64, some .i64]) (row := WK.row) (by kernel_rfl) (fun _ => rfl) (fun _ => rfl) fun x y h => by
  cases x; cases y
  simp [WK.row] at h
  simp_all
theorem u103 : Try.prog.underlying 103 = some (.map 106 3) := by kernel_rfl
abbrev evI : Int → Value := fun n => .int .i64 n
theorem look103 {w : World} {b : Nat} {M : List (WK × Int)} (h : MapAt w ekW evI b M) (k : WK) : (Instr.lookup 103 (.map (some b)) (ekW k) true).run Try.prog w = .ok (.tuple #[.int .i64 ((AL.get M k).getD 0), .bool (AL.get M k).isSome]) w := by
  have h1 := MapAt.look h KW u103 (Try.zeroValue3 w) k true
  simp only [if_true] at h1
  rw [h1]
  cases AL.get M k <;> rfl
theorem put103 {w : World} {b : Nat} {M : List (WK × Int)} (h : MapAt w ekW evI b M) (k : WK) (n : Int) : ∃ w', (Instr.mapUpdate 103 (.map (some b)) (ekW k) (.int .i64 n)).run Try.prog w = .ok () w' ∧ MapAt w' ekW evI b (AL.put M k n) ∧ Fr (· = b) w w' ∧ w'.heap.size = w.heap.size := MapAt.upd h KW u103 k n
end Go.Proofs.Ytcnenlmhbpijlaa
