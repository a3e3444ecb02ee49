import Derived.Test.YtcnenlmhbpijlaaLkU
import Derived.Test.YtcnenlmhbpijlaaShTwelve
/- Link: rows of numbers, read. No condition. -/
set_option maxRecDepth 100000
set_option linter.unusedVariables false
set_option linter.unusedSimpArgs false
namespace Go.Proofs.Ytcnenlmhbpijlaa
open Go.Sh Go.RowKit

abbrev intV (l : List Int) : List Value := l.map (Value.int .i64)
theorem rd_of_ints {w : World} {e : TypeId} {s : SV} {l : List Int} (h : RowAt w e 1 s (intV l)) (hb : ∀ x ∈ l, -9223372036854775808 ≤ x ∧ x ≤ 9223372036854775807) (hl : l.length ≤ 140737488355328) : RdSl w s l := by
  have hlen : s.len = l.length := by have := h.1; simp at this; omega
  refine ⟨hlen, h.le_cap.1, by omega, fun i x hx => ?_⟩
  obtain ⟨a, ha, hc, _⟩ := h.cell (j := i) (v := .int .i64 x) (by simp [hx])
  refine ⟨a, ha, [.int .i64 x], ⟨rfl, hb x (List.mem_of_getElem? hx)⟩, fun j v hv => ?_⟩
  obtain ⟨rfl, rfl⟩ := one_at hv
  have e0 : ∀ a : Addr, a.add 0 = a := fun a => by simp [Addr.add]
  rw [e0, show i * Enc.sz Int = i from Nat.mul_one i]
  exact hc
end Go.Proofs.Ytcnenlmhbpijlaa
