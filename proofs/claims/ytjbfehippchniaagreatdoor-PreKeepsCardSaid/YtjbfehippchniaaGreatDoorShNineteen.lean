import Derived.Test.YtjbfehippchniaaGreatDoorShEighteen
import Derived.Test.YtjbfehippchniaaGreatDoorShFourteen
/- Appending to a row of one's own: a value; a list that is read. For every program. -/
set_option linter.unusedVariables false
set_option linter.unusedSimpArgs false
namespace Go.Sh
open Go.RowKit Go.ChangeShapes
variable {P : Program} {w : World} {e : TypeId} {s : SV} {vs : List Value}
theorem row_append_nil {sz:Nat} {t ty:TypeId} {i:TypeInfo} (ht:P.underlying t=some (.slice e)) (hi:P.info? e=some i) (h:RowAt w e sz s vs) (c:Nat) :
    (Builtin.append_ #[t,t] ty #[.slice s.a s.len s.cap,.slice none 0 c]).run P w=.ok (.slice s.a s.len s.cap) w:=by
  have hc:=h.le_cap.1
  cases ha:s.a <;> simp[Builtin.append_,run_underlying ht,sizeOf,typeInfo,hi,Builtin.lenOf,Builtin.firstCells,loadCells,loadCellsFrom,hc,storeCells]
/-- One value, of one cell. -/
theorem row_push {t ty:TypeId} {z:Value} {b:Nat} (ht:P.underlying t=some (.slice e)) (hi:(P.info? e).map (λi=>(i.zero,i.size,i.bytes))=some (some z,1,b)) (hz:z.cells.size=1) (h:RowAt w e 1 s vs) {a:Addr} {u:Value} (hc:w.cell? a=some u) (hu:u.oneCell'=true)
    (hb:(s.len+1) * (b+1) ≤ 140737488355328) :
    ∃(s':SV) (w':World),(Builtin.append_ #[t,t] ty #[.slice s.a s.len s.cap,.slice (some a) 1 1]).run P w=.ok (.slice s'.a s'.len s'.cap) w' ∧ RowAt w' e 1 s' (vs ++ [u]) ∧ Fr (· ∈ blkOf s) w w' ∧ (∀k ∈ blkOf s',k ∈ blkOf s∨w.heap.size ≤ k) ∧ s'.len=s.len+1:=by
  obtain⟨i,h1,h2,h3,h4⟩:=info_parts hi
  subst h4
  exact row_append ht h1 h2 h3 hz (by decide) h (m:=1) (c:=1) (news:=[u]) (by simp) (λj v hv=>by
    have hj:j=0:=by cases j with
      | zero=>rfl
      | succ j=>simp at hv
    subst hj
    simp at hv
    subst hv
    have e0:∀a:Addr,a.add 0=a:=λa=>by simp[Addr.add]
    rw[e0];exact hc) (λv hv=>by simp at hv;subst hv;exact hu) hb
end Go.Sh
