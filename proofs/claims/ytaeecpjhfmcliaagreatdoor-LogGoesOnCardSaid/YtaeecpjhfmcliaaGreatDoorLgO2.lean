import Derived.Test.YtaeecpjhfmcliaaGreatDoorLtO
import Derived.OpenShut
/- The log: acts, scripts and pairs of numbers that are handed in. No condition. -/
set_option maxRecDepth 100000
set_option linter.unusedVariables false
namespace Go.Proofs.YtaeecpjhfmcliaaGreatDoor
open Go.Sh Go.RowKit
structure Act where
 op:Int
 a:Int
 b:Int
 c:Int
 s:ByteArray
 t:ByteArray
def Act.ok(a:Act):Prop:=zZR a.op/\zZR a.a/\zZR a.b/\zZR a.c
def Act.vals(a:Act):List Value:=[.int .i64 a.op,.int .i64 a.a,.int .i64 a.b,.int .i64 a.c,.string a.s,.string a.t]
abbrev actA(a:Act):Value:=.agg #[.int .i64 a.op,.int .i64 a.a,.int .i64 a.b,.int .i64 a.c,.string a.s,.string a.t]
instance:Enc Act where
 sz:=6
 rd _ vs a:=vs=a.vals/\a.ok
 len h:=by rw[h.1];rfl
 pu _ h:=h
instance:Lim Act:=⟨λa=>Lim.ok a.s/\Lim.ok a.t⟩
theorem xYw {w:World} {s:SV} {l:List Act} (h:zX3 w s l) {i:Nat} {x:Act} (hx:l[i]?=some x):∃a,s.a=some a/\i<s.len/\x.ok/\w.cell? ((a.add (i * 6)).add 0)=some (.int .i64 x.op)/\w.cell? ((a.add (i * 6)).add 1)=some (.int .i64 x.a)/\
  w.cell? ((a.add (i * 6)).add 2)=some (.int .i64 x.b)/\w.cell? ((a.add (i * 6)).add 3)=some (.int .i64 x.c)/\w.cell? ((a.add (i * 6)).add 4)=some (.string x.s)/\w.cell? ((a.add (i * 6)).add 5)=some (.string x.t):=by
 obtain⟨a,ha,vs,h1,h2⟩:=h.get i x hx
 obtain⟨rfl,hok⟩:vs=x.vals/\x.ok:=h1
 have hi:i<l.length:=(List.getElem?_eq_some_iff.1 hx).1
 have h2:zJv w (a.add (i * 6)) x.vals:=h2
 exact⟨a,ha,by rw[h.len];exact hi,hok,h2 0 _ rfl,h2 1 _ rfl,h2 2 _ rfl,h2 3 _ rfl,h2 4 _ rfl,h2 5 _ rfl⟩
structure zXB where
 t:Tbl
 recs:List Rec
 vals:List Val
 acts:List Act
structure ScV where
 f:SV
 r:SV
 rs:SV
 vs:SV
 ac:SV
abbrev scC(x:zXB)(s:ScV):List Value:=[.int .i64 x.t.page,.slice s.f.a s.f.len s.f.cap,.slice s.r.a s.r.len s.r.cap,.slice s.rs.a s.rs.len s.rs.cap,.slice s.vs.a s.vs.len s.vs.cap,.slice s.ac.a s.ac.len s.ac.cap]
abbrev scA(x:zXB)(s:ScV):Value:=.agg #[.int .i64 x.t.page,.slice s.f.a s.f.len s.f.cap,.slice s.r.a s.r.len s.r.cap,.slice s.rs.a s.rs.len s.rs.cap,.slice s.vs.a s.vs.len s.vs.cap,.slice s.ac.a s.ac.len s.ac.cap]
structure yVt(w:World)(x:zXB)(s:ScV):Prop where
 t:zX2 w x.t s.f s.r
 rs:zX3 w s.rs x.recs
 vs:zX3 w s.vs x.vals
 ac:zX3 w s.ac x.acts
theorem yVt.pu{w w':World}{x:zXB}{s:ScV}(h:yVt w x s)(hp:Pu w w'):yVt w' x s:=⟨h.t.pu hp,h.rs.pu hp,h.vs.pu hp,h.ac.pu hp⟩
instance:Enc zXB where
 sz:=6
 rd w vs x:=∃s:ScV,vs=scC x s/\yVt w x s
 len h:=by obtain⟨s,rfl,_⟩:=h;rfl
 pu hp h:=let ⟨s,h1,h2⟩:=h;⟨s,h1,h2.pu hp⟩
instance:Lim zXB:=⟨λx=>Lim.ok x.t/\Lim.ok x.recs/\Lim.ok x.vals/\Lim.ok x.acts⟩
structure Two where
 a:Int
 b:Int
instance:Enc Two where
 sz:=2
 rd _ vs x:=vs=[.int .i64 x.a,.int .i64 x.b]/\zZR x.a/\zZR x.b
 len h:=by rw[h.1];rfl
 pu _ h:=h
instance:Lim Two:=⟨λ_=>True⟩
open Go.ChangeShapes Go.WideShapes Go.ChangeAt in
theorem yZ1:zKx Tryz.prog 48 Act:=λH enc w base sp held fuel cs x h hr=>by
 obtain⟨hl,hF⟩:=zZX (P:=Tryz.prog) (t:=48) (ts:=[(3,0),(3,1),(3,2),(3,3),(9,4),(9,5)]) (by kernel_rfl) (by rfl) (λp hp=>by
  simp only[List.mem_cons,List.not_mem_nil,or_false]at hp
  rcases hp with rfl|rfl|rfl|rfl|rfl|rfl <;> kernel_rfl) (by kernel_rfl) h
 obtain⟨n0,v0,d0,c0,t0,w0⟩:=hF 0 _ rfl
 obtain⟨n1,v1,d1,c1,t1,w1⟩:=hF 1 _ rfl
 obtain⟨n2,v2,d2,c2,t2,w2⟩:=hF 2 _ rfl
 obtain⟨n3,v3,d3,c3,t3,w3⟩:=hF 3 _ rfl
 obtain⟨n4,v4,d4,c4,t4,w4⟩:=hF 4 _ rfl
 obtain⟨n5,v5,d5,c5,t5,w5⟩:=hF 5 _ rfl
 obtain⟨x0,r0,l0⟩:=zXi (zXF (by kernel_rfl)) t0 λm hm=>hr m (w0 m hm)
 obtain⟨x1,r1,l1⟩:=zXi (zXF (by kernel_rfl)) t1 λm hm=>hr m (w1 m hm)
 obtain⟨x2,r2,l2⟩:=zXi (zXF (by kernel_rfl)) t2 λm hm=>hr m (w2 m hm)
 obtain⟨x3,r3,l3⟩:=zXi (zXF (by kernel_rfl)) t3 λm hm=>hr m (w3 m hm)
 obtain⟨x4,r4,l4⟩:=zXi (zWB (by kernel_rfl)) t4 λm hm=>hr m (w4 m hm)
 obtain⟨x5,r5,l5⟩:=zXi (zWB (by kernel_rfl)) t5 λm hm=>hr m (w5 m hm)
 obtain⟨r0,b0⟩:=r0
 obtain⟨r1,b1⟩:=r1
 obtain⟨r2,b2⟩:=r2
 obtain⟨r3,b3⟩:=r3
 have r4:[v4]=[.string x4]:=r4
 have r5:[v5]=[.string x5]:=r5
 simp only[List.cons.injEq,and_true]at r0 r1 r2 r3 r4 r5
 subst r0 r1 r2 r3 r4 r5
 refine⟨⟨x0,x1,x2,x3,x4,x5⟩,⟨?_,b0,b1,b2,b3⟩,⟨l4,l5⟩⟩
 have hl:cs.length=6:=hl
 apply List.ext_getElem?
 intro i
 match i with
 | 0=>exact c0
 | 1=>exact c1
 | 2=>exact c2
 | 3=>exact c3
 | 4=>exact c4
 | 5=>exact c5
 | k+6=>rw[List.getElem?_eq_none (by omega)];rfl
open Go.ChangeShapes Go.WideShapes Go.ChangeAt in
theorem xXg {P:Program} {H:Type} {enc:TypeId × Value->H} {w:World} {base:Nat} {sp:Nat->Bool} {held:Bool} {t:TypeId} {ts:List (TypeId × Nat)} (hf:fieldsOf P t=some ts)
  {fuel:Nat} {cs:List Value} {x:DataW H × List MemPlace} (h:DataW.trod enc P w base sp held fuel t cs=some x) :
  cs.length=P.cellsOf t/\∀(i:Nat) (ti:TypeId × Nat),ts[i]?=some ti->∃n d,DataW.trod enc P w base sp held n ti.1 ((cs.drop ti.2).take (P.cellsOf ti.1))=some d/\∀m ∈ d.1.weights P ti.1,m ∈ x.1.weights P t:=by
 unfold fieldsOf at hf
 split at hf
 case h_2=>cases hf
 rename_i fs hu
 have hf:fs.toList.map (λf=>(f.type,f.offset))=ts:=Option.some.inj hf
 obtain⟨xs,n,_,rfl,hlen,hxl,hxs⟩:=DataW.trod_struct hu h
 refine⟨hlen,λi ti hti=>?_⟩
 have hfl:fs.size=ts.length:=by rw[←hf];simp
 have hi:i<ts.length:=(List.getElem?_eq_some_iff.1 hti).1
 obtain⟨f,hfi⟩:∃f,fs[i]?=some f:=⟨_,Array.getElem?_eq_getElem (by omega)⟩
 have e1:ti=(f.type,f.offset):=by
  rw[←hf,List.getElem?_map]at hti
  rw[Array.getElem?_toList,hfi]at hti
  exact(Option.some.inj hti).symm
 have hk:=hxs i f hfi
 have hxi:i<xs.length:=by omega
 refine⟨n,xs[i],?_,λm hm=>?_⟩
 ·rw[e1,hk,List.getElem?_eq_getElem hxi]
 ·simp only[DataW.weights,hu]
  refine DataW.weights_mem_each (j:=i) (t:=f.type) (d:=(xs[i]).1) ?_ ?_ m ?_
  ·rw[List.getElem?_map,Array.getElem?_toList,hfi];rfl
  ·rw[List.getElem?_map,List.getElem?_eq_getElem hxi];rfl
  ·rw[e1]at hm;exact hm
open Go.ChangeShapes Go.WideShapes Go.ChangeAt in
theorem zVs{P:Program}{α:Type}[Enc α][Lim α]{H:Type}{enc:TypeId × Value->H}{w:World}{base:Nat}{sp:Nat->Bool}{held:Bool}{t:TypeId}(ho:zKx P t α){n:Nat}{vs:List Value}{d:DataW H × List MemPlace}(h:DataW.trod enc P w base sp held n t vs=some d)
  (hr:∀m ∈ d.1.weights P t,m<=reachBytes):∃a:α,Enc.rd w vs a/\Lim.ok a:=ho H enc w base sp held n vs d h hr
open Go.ChangeShapes Go.WideShapes Go.ChangeAt in
theorem yZe:zKx Tryz.prog 41 zXB:=λH enc w base sp held fuel cs x h hr=>by
 obtain⟨hl,hF⟩:=xXg (P:=Tryz.prog) (t:=41) (ts:=[(35,0),(33,3),(38,4),(39,5)]) (by kernel_rfl) h
 have hl:cs.length=6:=hl.trans (by kernel_rfl)
 have z35:Tryz.prog.cellsOf 35=3:=by kernel_rfl
 have z33:Tryz.prog.cellsOf 33=1:=by kernel_rfl
 have z38:Tryz.prog.cellsOf 38=1:=by kernel_rfl
 have z39:Tryz.prog.cellsOf 39=1:=by kernel_rfl
 obtain⟨v0,v1,v2,v3,v4,v5,rfl⟩:∃v0 v1 v2 v3 v4 v5,cs=[v0,v1,v2,v3,v4,v5]:=by
  match cs,hl with
  | [a,b,c,d,e,f],_=>exact⟨a,b,c,d,e,f,rfl⟩
 obtain⟨n0,d0,t0,w0⟩:=hF 0 _ rfl
 obtain⟨n1,d1,t1,w1⟩:=hF 1 _ rfl
 obtain⟨n2,d2,t2,w2⟩:=hF 2 _ rfl
 obtain⟨n3,d3,t3,w3⟩:=hF 3 _ rfl
 dsimp only at t0 t1 t2 t3
 rw[z35]at t0
 rw[z33]at t1
 rw[z38]at t2
 rw[z39]at t3
 obtain⟨x0,r0,l0⟩:=zVs yYK t0 λm hm=>hr m (w0 m hm)
 obtain⟨x1,r1,l1⟩:=zVs (zZ1 (t:=33) (e:=67) (by kernel_rfl) (by kernel_rfl) (of_decide_eq_true (by kernel_rfl)) yZr) t1 λm hm=>hr m (w1 m hm)
 obtain⟨x2,r2,l2⟩:=zVs (zZ1 (t:=38) (e:=73) (by kernel_rfl) (by kernel_rfl) (of_decide_eq_true (by kernel_rfl)) yZv) t2 λm hm=>hr m (w2 m hm)
 obtain⟨x3,r3,l3⟩:=zVs (zZ1 (t:=39) (e:=48) (by kernel_rfl) (by kernel_rfl) (of_decide_eq_true (by kernel_rfl)) yZ1) t3 λm hm=>hr m (w3 m hm)
 obtain⟨s0,s1,e0,r0⟩:=r0
 obtain⟨s2,e1,r1⟩:=r1
 obtain⟨s3,e2,r2⟩:=r2
 obtain⟨s4,e3,r3⟩:=r3
 simp at e0 e1 e2 e3
 obtain⟨rfl,rfl,rfl⟩:=e0
 subst e1 e2 e3
 exact⟨⟨x0,x1,x2,x3⟩,⟨⟨s0,s1,s2,s3,s4⟩,rfl,⟨r0,r1,r2,r3⟩⟩,⟨l0,l1,l2,l3⟩⟩
theorem yXl{H:Type}{P:Program}{e:TypeId}:∀{ds:List (DataW H)} {j:Nat} {d:DataW H},ds[j]?=some d->∀n ∈ d.weights P e,n ∈ DataW.weightsAll P e ds
 | [],j,d,h,n,_=>by simp at h
 | x :: ds,0,d,h,n,hn=>by
  simp at h;subst h
  simp only[DataW.weightsAll,List.mem_append];exact .inl hn
 | x :: ds,j+1,d,h,n,hn=>by
  simp only[DataW.weightsAll,List.mem_append]
  exact .inr (yXl (by simpa using h) n hn)
open Go.ChangeShapes Go.WideShapes Go.ChangeAt in
theorem yYM:zKx Tryz.prog 75 Two:=λH enc w base sp held fuel cs x h hr=>by
 obtain⟨xs,m,_,rfl,hlen,hxl,hxs⟩:=DataW.trod_array (show Tryz.prog.underlying 75=some (.array 2 3)by kernel_rfl) h
 have hl:cs.length=2:=hlen.trans (by kernel_rfl)
 obtain⟨v0,v1,rfl⟩:∃v0 v1,cs=[v0,v1]:=by
  match cs,hl with
  | [a,b],_=>exact⟨a,b,rfl⟩
 have z3:Tryz.prog.cellsOf 3=1:=by kernel_rfl
 have h0:=hxs 0 (by omega)
 have h1:=hxs 1 (by omega)
 rw[z3]at h0 h1
 obtain⟨y0,hy0⟩:∃y,xs[0]?=some y:=⟨_,List.getElem?_eq_getElem (by omega)⟩
 obtain⟨y1,hy1⟩:∃y,xs[1]?=some y:=⟨_,List.getElem?_eq_getElem (by omega)⟩
 rw[hy0]at h0
 rw[hy1]at h1
 obtain⟨a0,⟨r0,b0⟩,_⟩:=zVs (α:=Int) (zXF (by kernel_rfl)) h0 λk hk=>hr k (by
  simp only[DataW.weights,show Tryz.prog.underlying 75=some (.array 2 3)by kernel_rfl]
  exact yXl (j:=0) (by rw[List.getElem?_map,hy0];rfl) k hk)
 obtain⟨a1,⟨r1,b1⟩,_⟩:=zVs (α:=Int) (zXF (by kernel_rfl)) h1 λk hk=>hr k (by
  simp only[DataW.weights,show Tryz.prog.underlying 75=some (.array 2 3)by kernel_rfl]
  exact yXl (j:=1) (by rw[List.getElem?_map,hy1];rfl) k hk)
 simp at r0 r1
 subst r0 r1
 exact⟨⟨a0,a1⟩,⟨rfl,b0,b1⟩,trivial⟩
end Go.Proofs.YtaeecpjhfmcliaaGreatDoor
