import Derived.Test.YtaeecpjhfmcliaaGreatDoorLtO
import Derived.OpenShut
/- The log: acts, scripts and pairs of numbers that are handed in. No condition. -/
set_option maxRecDepth 100000
set_option linter.unusedVariables false
namespace Go.Proofs.YtaeecpjhfmcliaaGreatDoor
open Go.Sh Go.RowKit
structure Act where
 op:Int
 a:Int
 b:Int
 c:Int
 s:ByteArray
 t:ByteArray
def Act.ok(a:Act):Prop:=zZ2 a.op/\zZ2 a.a/\zZ2 a.b/\zZ2 a.c
def Act.vals(a:Act):List Value:=[.int .i64 a.op,.int .i64 a.a,.int .i64 a.b,.int .i64 a.c,.string a.s,.string a.t]
instance:Enc Act where
 sz:=6
 rd _ vs a:=vs=a.vals/\a.ok
 len h:=by rw[h.1];rfl
 pu _ h:=h
instance:Lim Act:=⟨λa=>Lim.ok a.s/\Lim.ok a.t⟩
structure yQS where
 t:Tbl
 recs:List Rec
 vals:List Val
 acts:List Act
structure ScV where
 f:SV
 r:SV
 rs:SV
 vs:SV
 ac:SV
abbrev scC(x:yQS)(s:ScV):List Value:=[.int .i64 x.t.page,.slice s.f.a s.f.len s.f.cap,.slice s.r.a s.r.len s.r.cap,.slice s.rs.a s.rs.len s.rs.cap,.slice s.vs.a s.vs.len s.vs.cap,.slice s.ac.a s.ac.len s.ac.cap]
structure RdSc(w:World)(x:yQS)(s:ScV):Prop where
 t:zXB w x.t s.f s.r
 rs:zXV w s.rs x.recs
 vs:zXV w s.vs x.vals
 ac:zXV w s.ac x.acts
theorem RdSc.pu{w w':World}{x:yQS}{s:ScV}(h:RdSc w x s)(hp:Pu w w'):RdSc w' x s:=⟨h.t.pu hp,h.rs.pu hp,h.vs.pu hp,h.ac.pu hp⟩
instance:Enc yQS where
 sz:=6
 rd w vs x:=∃s:ScV,vs=scC x s/\RdSc w x s
 len h:=by obtain⟨s,rfl,_⟩:=h;rfl
 pu hp h:=let ⟨s,h1,h2⟩:=h;⟨s,h1,h2.pu hp⟩
instance:Lim yQS:=⟨λx=>Lim.ok x.t/\Lim.ok x.recs/\Lim.ok x.vals/\Lim.ok x.acts⟩
structure Two where
 a:Int
 b:Int
instance:Enc Two where
 sz:=2
 rd _ vs x:=vs=[.int .i64 x.a,.int .i64 x.b]/\zZ2 x.a/\zZ2 x.b
 len h:=by rw[h.1];rfl
 pu _ h:=h
instance:Lim Two:=⟨λ_=>True⟩
end Go.Proofs.YtaeecpjhfmcliaaGreatDoor
