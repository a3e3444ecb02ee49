import Derived.Test.YtaeecpjhfmcliaaGreatDoorShEighteen
import Derived.Test.YtaeecpjhfmcliaaGreatDoorShFourteen
/- Appending to a row of one's own: a value; a list that is read. For every program. -/
set_option linter.unusedVariables false
set_option linter.unusedSimpArgs false
namespace Go.Sh
open Go.RowKit Go.ChangeShapes
variable {P : Program} {w : World} {e : TypeId} {s : SV} {vs : List Value}
theorem zJH {sz:Nat} {t ty:TypeId} {i:TypeInfo} (ht:P.underlying t=some (.slice e)) (hi:P.info? e=some i) (h:zQi w e sz s vs) (c:Nat) :
  (Builtin.append_ #[t,t] ty #[.slice s.a s.len s.cap,.slice none 0 c]).run P w=.ok (.slice s.a s.len s.cap) w:=by
 have hc:=h.le_cap.1
 cases ha:s.a <;> simp[Builtin.append_,run_underlying ht,sizeOf,typeInfo,hi,Builtin.lenOf,Builtin.firstCells,loadCells,loadCellsFrom,hc,storeCells]
theorem yYN {t ty:TypeId} {z:Value} {b:Nat} (ht:P.underlying t=some (.slice e)) (hi:(P.info? e).map (λi=>(i.zero,i.size,i.bytes))=some (some z,1,b)) (hz:z.cells.size=1) (h:zQi w e 1 s vs) {a:Addr} {u:Value} (hc:w.cell? a=some u) (hu:u.oneCell'=true)
  (hb:(s.len+1) * (b+1)<=140737488355328) :
  ∃(s':SV) (w':World),(Builtin.append_ #[t,t] ty #[.slice s.a s.len s.cap,.slice (some a) 1 1]).run P w=.ok (.slice s'.a s'.len s'.cap) w'/\zQi w' e 1 s' (vs ++ [u])/\Fr (· ∈ zQb s) w w'/\(∀k ∈ zQb s',k ∈ zQb s∨w.heap.size<=k)/\s'.len=s.len+1:=by
 obtain⟨i,h1,h2,h3,h4⟩:=info_parts hi
 subst h4
 exact zK6 ht h1 h2 h3 hz (by decide) h (m:=1) (c:=1) (news:=[u]) (by simp) (λj v hv=>by
  have hj:j=0:=by cases j with
   | zero=>rfl
   | succ j=>simp at hv
  subst hj
  simp at hv
  subst hv
  have e0:∀a:Addr,a.add 0=a:=λa=>by simp[Addr.add]
  rw[e0];exact hc) (λv hv=>by simp at hv;subst hv;exact hu) hb
theorem zJo {t ty:TypeId} {z:Value} {b:Nat} (ht:P.underlying t=some (.slice e)) (hi:(P.info? e).map (λi=>(i.zero,i.size,i.bytes))=some (some z,1,b)) (hz:z.cells.size=1) (h:zQi w e 1 s vs) {m:SV} {news:List Value}
  (hl:m.len=news.length) (hn:∀j u,news[j]?=some u->∃a,m.a=some a/\w.cell? (a.add j)=some u) (h1:∀u ∈ news,u.oneCell'=true) (hb:(s.len+m.len) * (b+1)<=140737488355328) :
  ∃(s':SV) (w':World),(Builtin.append_ #[t,t] ty #[.slice s.a s.len s.cap,.slice m.a m.len m.cap]).run P w=.ok (.slice s'.a s'.len s'.cap) w'/\zQi w' e 1 s' (vs ++ news)/\Fr (· ∈ zQb s) w w'/\(∀k ∈ zQb s',k ∈ zQb s∨w.heap.size<=k)/\s'.len=s.len+m.len:=by
 obtain⟨i,h2,h3,h4,h5⟩:=info_parts hi
 subst h5
 cases hm:m.a with
 | none=>
  have h0:news=[]:=by
   cases news with
   | nil=>rfl
   | cons u r=>obtain⟨a,ha,_⟩:=hn 0 u rfl;rw[hm]at ha;cases ha
  subst h0
  rw[show m.len=0 from hl]
  exact⟨s,w,zJH ht h2 h m.cap,by simpa using h,Fr.refl _ _,λk hk=>.inl hk,rfl⟩
 | some a=>
  exact zK6 ht h2 h3 h4 hz (by decide) h (m:=m.len) (c:=m.cap) (news:=news) (by omega) (λj u hu=>by
   obtain⟨a',ha,hc⟩:=hn j u hu
   rw[hm]at ha;cases ha
   exact hc) h1 hb
end Go.Sh
