import Derived.Test.YtjbfehippchniaaGreatDoorShFifteen
import Derived.SizedLaws
/- What a call is handed, read as data: for each type that reads so, its cells read as the list, the number, the text that they are. For every program. -/
set_option linter.unusedSectionVars false
set_option linter.unusedSimpArgs false
namespace Go.Sh
open Go.ChangeShapes Go.WideShapes Go.ChangeAt Go.RowKit
variable {P : Program}
/-- What the reach says of data. -/
class Lim (α:Type) where
  ok:α → Prop
instance:Lim Int:=⟨λn=>-9223372036854775808 ≤ n ∧ n ≤ 9223372036854775807⟩
instance:Lim ByteArray:=⟨λs=>s.size ≤ 140737488355328⟩
instance:Lim UInt8:=⟨λ_=>True⟩
instance:Lim Bool:=⟨λ_=>True⟩
instance {α:Type}[Lim α]:Lim (List α):=⟨λl=>∀x ∈ l,Lim.ok x⟩
def Opens(P:Program)(t:TypeId)(α:Type)[Enc α][Lim α]:Prop:=∀(H:Type) (enc:TypeId × Value → H) (w:World) (base:Nat) (sp:Nat → Bool) (held:Bool) (fuel:Nat) (cs:List Value) (x:DataW H × List MemPlace),
  DataW.trod enc P w base sp held fuel t cs=some x → (∀n ∈ x.1.weights P t,n ≤ reachBytes) → ∃a:α,Enc.rd w cs a ∧ Lim.ok a
theorem reach_le:reachBytes ≤ 140737488355328:=by decide
theorem opens_str{t:TypeId}(ht:P.underlying t=some .string):Opens P t ByteArray:=λH enc w base sp held fuel cs x h hr=>by
  obtain⟨s,rfl,rfl,hw⟩:=DataW.trod_string ht h
  refine⟨s,rfl,?_⟩
  have:=hr s.data.toList.length (by simp[DataW.weights])
  have h2:=reach_le
  have h3:s.data.toList.length=s.size:=by first|(simp;done)|(simp;rfl)
  show s.size ≤ _
  omega
/-- A value that is one cell. -/
theorem one_cell{t:TypeId}{w:World}{r:Reach}{b:Nat}{v:Value}(ha:aggB P t=false)(h:Value.okWide P w r b t v):v.cells.toList=[v]:=by
  have hc:Cell.okWide P w r b t v:=by
    unfold Value.okWide at h
    unfold aggB at ha
    split at h
    · rename_i hu;rw[hu]at ha;simp at ha
    · rename_i hu;rw[hu]at ha;simp at ha
    · exact h
  cases v <;> first|rfl|skip
  all_goals
    exfalso
    unfold Cell.okWide at hc
    split at hc <;> first|(rename_i h2;simp at h2;done)|skip
    unfold Cell.ok at hc
    split at hc <;> first|exact hc.elim|simp_all
/-- The j-th argument, of one cell, read. -/
theorem open_arg {H:Type} {enc:TypeId × Value → H} {α:Type} [Enc α] [Lim α] {t:TypeId} {ts:List TypeId} {w:World} {r:Reach} {b0 base:Nat} {sp:Nat → Bool} {held:Bool} {v:Value} {d:DataW H} {ps:List MemPlace} {ds:List (DataW H)} {j:Nat} (ho:Opens P t α) (ha:aggB P t=false)
    (hv:Value.okWide P w r b0 t v) (hd:DataW.Trod enc P w base sp held t v d ps) (hz:(DataW.weightsEach P ts ds).all (· ≤ reachBytes)=true) (h1:ts[j]?=some t) (h2:ds[j]?=some d):∃a:α,Enc.rd w [v] a ∧ Lim.ok a:=by
  obtain⟨fuel,hf⟩:=hd
  rw[one_cell ha hv]at hf
  exact ho H enc w base sp held fuel [v] (d,ps) hf λn hn=>by
    have:=List.all_eq_true.1 hz _ (DataW.weights_mem_each h1 h2 n hn)
    simpa using this
end Go.Sh
