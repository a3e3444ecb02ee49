import Derived.Test.YtaeecpjhfmcliaaGreatDoorLgOwF
import Derived.Test.YtaeecpjhfmcliaaGreatDoorLgPrB
import Derived.Laws.LoneSync
/- The log: writes are done; files are copied. No condition but those stated. -/
set_option maxRecDepth 100000
set_option linter.unusedVariables false
set_option linter.unusedSimpArgs false
noncomputable section
namespace Go.Proofs.YtaeecpjhfmcliaaGreatDoor
open Go.Sh Go.RowKit Tryz
variable {w w' : World}
theorem files_row {s q0 q1:SV} {F:Fls} (h:zQj w 22 1 s [slV q0,slV q1]) (h0:ByV w q0 F.1) (h1:ByV w q1 F.2):zXx w s q0 q1 F:=by
 have hl:=h.1
 obtain⟨a,ha,c0,_⟩:=h.cell (j:=0) (v:=slV q0) rfl
 obtain⟨a',ha',c1,_⟩:=h.cell (j:=1) (v:=slV q1) rfl
 rw[ha]at ha';cases ha'
 simp at hl
 exact⟨by omega,by have:=h.le_cap.1;omega,⟨a,ha,c0,c1⟩,h0,h1⟩
def zX9(B:Nat->Prop)(w:World)(s q0 q1:SV)(F:Fls):Prop:=∀w2,Fr B w w2->zXx w2 s q0 q1 F
theorem zX9.at_{B:Nat->Prop}{s q0 q1:SV}{F:Fls}(h:zX9 B w s q0 q1 F):zXx w s q0 q1 F:=h w (Fr.refl _ _)
theorem zX9.pu{B:Nat->Prop}{s q0 q1:SV}{F:Fls}(h:zX9 B w s q0 q1 F)(hp:Pu w w'):zX9 B w' s q0 q1 F:=λw2 h2=>h w2 ((Fr.pu hp:Fr B w w').trans h2 λb hb _=>hb)
theorem yJb(a b:Int)(w:World):(Builtin.min_ #[3,3] 3 #[.int .i64 a,.int .i64 b]).run prog w=.ok (.int .i64 (min a b)) w:=by
 have e:(if b<a then b else a)=min a b:=by split <;> omega
 rw[←e]
 simp[Builtin.min_,Builtin.min2]
theorem ByV.front{s:SV}{d:List UInt8}(h:ByV w s d){n:Nat}(hn:n<=d.length):ByV w ⟨if s.cap=0 then s.a else s.a.map (λx=>x.add (0 * 1)),n - 0,s.cap - 0⟩ (d.take n):=by
 have:=h.sub (lo:=0) (hi:=n) (Nat.zero_le _) hn
 rw[List.drop_zero,Nat.sub_zero]at this
 exact this
theorem done_c{B:Nat->Prop}{x:Wr}{q s q0 q1:SV}{F:Fls}(hB:∀b,B b->b<w.heap.size)(hs:zX9 B w s q0 q1 F)(hq:ByV w q x.b)(hf:x.file=0∨x.file=1)(hat:0<=x.at_)(hF:F.1.length<=900000000/\F.2.length<=900000000)(hb:x.b.length<=1000000)(k:Int) :
  Calls prog 76 #[.agg #[.int .i64 x.file,.int .i64 x.at_,slV q],slV s,.int .i64 k] w λe w'=>∃o r0 r1:SV,e=.returned (slV o)/\zX9 B w' o r0 r1 (zJu F x k)/\Pu w w':=by
 refine yWK _ _ _ _ _ w _ (alB λw1 ax aE=>(yYL (hs.pu ax).at_).mono ?_)
 rintro e w2 ⟨o,rfl,ho,hon,ar⟩
 have aM:=ax.trans ar
 have me:w.heap.size<w1.heap.size:=zQz aE
 -- what a row of files that is new tells, whatever is written elsewhere
 have kept:∀{wz:World} {r0 r1:SV} {G:Fls},zQj wz 22 1 o [slV r0,slV r1]->Pu w wz->(∀w3,Fr B wz w3->ByV w3 r0 G.1/\ByV w3 r1 G.2)->zX9 B wz o r0 r1 G:=λ{wz r0 r1 G} hr hpz hG w3 h3=>
  files_row (hr.fr h3 λb hb e=>by have:=hon b hb;have:=hB b e;omega) (hG w3 h3).1 (hG w3 h3).2
 have old:∀{wz:World},Pu w wz->∀w3,Fr B wz w3->ByV w3 q0 F.1/\ByV w3 q1 F.2:=λhpz w3 h3=>by
  have:=hs.pu hpz w3 h3
  exact⟨this.b0,this.b1⟩
 refine⟨o,rfl,Br.of (λc=>?_) (λc=>?_)⟩
 ·rw[zYF F x (zQk c)]
  exact⟨o,q0,q1,rfl,kept ho aM (old aM),aM⟩
 have c:=zQd c
 refine zQf λw4 aJ _=>?_
 have cW:=aM.trans aJ
 have jY:=aJ.blk (ar.blk aE)
 have sO:=ho.pu aJ
 have nb:∀{wz w3:World} {b:SV} {l:List UInt8},zQe w wz b l->Fr B wz w3->l.length<=2000000000->ByV w3 b l:=λhn h3 hl=>(hn.fr h3 λk hk e=>by have:=hn.2 k hk;have:=hB k e;omega).by (by omega)
 obtain⟨i,hi,zw,qi,di,hrow,hbi,hdi,hdl,hput⟩:∃i:Nat,x.file=(i:Int)/\i<2/\∃(qi:SV) (di:List UInt8),[slV q0,slV q1][i]?=some (slV qi)/\(∀{wz:World},Pu w wz->ByV wz qi di)/\F.get x.file=di/\di.length<=900000000/\
   ∀{wz:World} {b:SV} {l:List UInt8},zQj wz 22 1 o ([slV q0,slV q1].set i (slV b))->Pu w wz->zQe w wz b l->l.length<=2000000000->∃r0 r1,zX9 B wz o r0 r1 (F.put x.file l):=by
  rcases hf with hf|hf
  ·refine⟨0,hf,by omega,q0,F.1,rfl,λhpz=>(hs.pu hpz).at_.b0,by rw[hf];rfl,hF.1,λ{wz b l} hr hpz hn hl=>⟨b,q1,?_⟩⟩
   rw[hf]
   exact kept hr hpz λw3 h3=>⟨nb hn h3 hl,(old hpz w3 h3).2⟩
  ·refine⟨1,hf,by omega,q1,F.2,rfl,λhpz=>(hs.pu hpz).at_.b1,by rw[hf];rfl,hF.2,λ{wz b l} hr hpz hn hl=>⟨q0,b,?_⟩⟩
   rw[hf]
   exact kept hr hpz λw3 h3=>⟨(old hpz w3 h3).1,nb hn h3 hl⟩
 have hol:o.len=2:=by have:=sO.1;simp at this;omega
 obtain⟨a5,ha5,c5,_⟩:=sO.cell hrow
 obtain⟨n,hn⟩:∃n:Nat,(n:Int)=min x.at_ di.length:=⟨(min x.at_ di.length).toNat,by omega⟩
 have rZ:=hbi cW
 have hql:=rZ.len
 have hqc:=rZ.cap
 have ta:n<=di.length:=by omega
 refine⟨λu=>Pu w4 u,Pu.refl _,x.file,λu hu=>cl0 (hu.blk jY),a5,ha5,by omega,by omega,qi,λu hu=>hu.cell (by rw[hi,zZc,Nat.mul_one];exact c5),x.at_,λu hu=>cl (hu.blk jY) 1,x.file,λu hu=>cl0 (hu.blk jY),a5,ha5,by omega,by omega,qi,
  λu hu=>hu.cell (by rw[hi,zZc,Nat.mul_one];exact c5),(n:Int),w4,by rw[hql,hn];exact yJb _ _ _,Pu.refl _,by omega,by omega,by omega,?_⟩
 rw[zZc]
 refine(xQV (rZ.front ta) (by rw[List.length_take];omega)).mono ?_
 rintro e w8 ⟨q8,rfl,n8,bM⟩
 have gj:=cW.trans bM
 have nI:=bM.blk jY
 have vp:=sO.pu bM
 have vA:=n8.low cW.size
 have kn:∀{wz:World} {b:SV} {l:List UInt8},Pu w wz->zQj wz 22 1 o [slV q0,slV q1]->zQe w wz b l->l=(F.get x.file).take (min x.at_ (F.get x.file).length).toNat ++ x.b.take k.toNat->wz.heap[w.heap.size]?=some (.cells #[.int .i64 x.file,.int .i64 x.at_,slV q] 90)->
   ∃iu:Int,wz.cell? (⟨w.heap.size,0,none⟩:Addr)=some (.int .i64 iu)/\∃eL:Addr,o.a=some eL/\0<=iu/\iu<((o.len:Nat):Int)/\Sh.st1 (eL.add (iu.toNat * 1)) (slV b) wz λaX=>∃o' r0 r1:SV,(Ending.returned (slV o)=.returned (slV o'))/\zX9 B aX o' r0 r1 (zJu F x k)/\Pu w aX:=λ{wz b l} hpz hrz hnz hl hbz=>by
  obtain⟨a,ha,hst⟩:=hrz.st1 (j:=i) (by simpa using zw) (slV b) (K:=λaX=>∃o' r0 r1:SV,(Ending.returned (slV o)=.returned (slV o'))/\zX9 B aX o' r0 r1 (zJu F x k)/\Pu w aX) λaX mH iP hs12=>by
   have cT:Pu w aX:=hpz.andNew iP λb hb=>by have:=hon b hb;omega
   have hll:l.length<=2000000000:=by
    have h1:=List.length_take_le (min x.at_ (F.get x.file).length).toNat (F.get x.file)
    have h2:(x.b.take k.toNat).length<=x.b.length:=by rw[List.length_take];exact Nat.min_le_right _ _
    have h3:((F.get x.file).take (min x.at_ (F.get x.file).length).toNat).length<=(F.get x.file).length:=by rw[List.length_take];exact Nat.min_le_right _ _
    rw[hl,List.length_append]
    rw[hdi]at h3 ⊢
    omega
   obtain⟨r0,r1,hK⟩:=hput mH cT (hnz.fr iP (zQq hnz.1 hrz (by decide))) hll
   refine⟨o,r0,r1,rfl,?_,cT⟩
   rw[yQV F x (by omega),←hl]
   exact hK
  exact⟨x.file,cl0 hbz,a,ha,by omega,by omega,by rw[hi,zZc,Nat.mul_one];exact hst⟩
 have htk:di.take n=(F.get x.file).take (min x.at_ (F.get x.file).length).toNat:=by rw[hdi];congr 1;omega
 refine⟨q8,rfl,q,cl nI 2,Br.of (λc1=>?_) (λc1=>?_)⟩
 ·have c1:=zQk c1
  have hqw:=hq.pu gj
  have hqwl:=hqw.len
  have hqwc:=hqw.cap
  obtain⟨m,hm⟩:∃m:Nat,(m:Int)=min k x.b.length:=⟨(min k x.b.length).toNat,by omega⟩
  have wm:m<=x.b.length:=by omega
  have hmf:=hqw.front wm
  obtain⟨q9,w9,zy,n9,mG⟩:=vA.app (by have:=gj.size;omega) (m:=⟨if q.cap=0 then q.a else q.a.map (λx=>x.add (0 * 1)),m - 0,q.cap - 0⟩) (news:=x.b.take m) hmf.len (λj b hj=>by
   obtain⟨a,ha,hc⟩:=hmf.get j b hj
   exact⟨a,ha,by rw[Nat.mul_one]at hc;exact hc⟩) (by rw[List.length_take,List.length_take];omega)
  have jU:Pu w w9:=gj.andNew mG vA.2
  refine⟨q,cl nI 2,q,cl nI 2,(m:Int),w8,by rw[hqwl,hm];exact yJb _ _ _,by omega,by omega,by omega,?_⟩
  rw[zZc]
  refine⟨q9,w9,zy,kn jU (vp.fr mG (zQq vp vA.1 (by decide))) n9 ?_ (mG.blk nI λhk=>vA.1.other nI (by decide) hk)⟩
  rw[←htk]
  congr 1
  by_cases hk:k<=x.b.length
  ·congr 1;omega
  ·rw[List.take_of_length_le (by omega),List.take_of_length_le (by omega)]
 ·have c1:=zQd c1
  have oI:x.b=[]:=List.eq_nil_of_length_eq_zero (by have:=hq.len;omega)
  refine kn gj vp vA ?_ nI
  rw[oI,List.take_nil,List.append_nil,←htk]
theorem yV2{B:Nat->Prop}{x:Wr}{q s q0 q1:SV}{F:Fls}(hB:∀b,B b->b<w.heap.size)(hs:zX9 B w s q0 q1 F)(hq:ByV w q x.b)(hf:x.file=0∨x.file=1)(hat:0<=x.at_)(hF:F.1.length<=900000000/\F.2.length<=900000000)(hb:x.b.length<=1000000) :
  Calls prog 49 #[slV s,.agg #[.int .i64 x.file,.int .i64 x.at_,slV q]] w λe w'=>∃o r0 r1:SV,e=.returned (slV o)/\zX9 B w' o r0 r1 (zQK F x)/\Pu w w':=by
 refine yV3 _ _ _ _ w _ (alB λw1 ax aE=>zQf λw2 ar _=>?_)
 have aM:=ax.trans ar
 have cO:=ar.blk aE
 refine⟨λu=>Pu w2 u,Pu.refl _,x.file,λu hu=>cl (hu.blk cO) 0,x.at_,λu hu=>cl (hu.blk cO) 1,q,λu hu=>cl (hu.blk cO) 2,x.file,λu hu=>cl (hu.blk cO) 0,x.at_,λu hu=>cl (hu.blk cO) 1,q,λu hu=>cl (hu.blk cO) 2,?_⟩
 refine yYE _ _ _ w2 _ (alB λw3 aA bo=>⟨q,cl bo 2,?_⟩)
 have hql:=hq.len
 rw[show((q.len:Nat):Int)=((x.b.length:Nat):Int)by omega,zQa (by omega) (by omega)]
 refine⟨_,rfl,aA,?_⟩
 have aZ:=aM.trans aA
 refine(done_c (B:=B) (x:=x) (λb hbb=>Nat.lt_of_lt_of_le (hB b hbb) aZ.size) (hs.pu aZ) (hq.pu aZ) hf hat hF hb _).mono ?_
 rintro e w4 ⟨o,r0,r1,rfl,h1,h2⟩
 exact⟨o,rfl,o,r0,r1,rfl,h1,aZ.trans h2⟩
structure yQP(w0 w:World)(s q0 q1:SV)(F:Fls):Prop where
 row:zQj w 22 1 s [slV q0,slV q1]
 rn:∀b ∈ zQb s,w0.heap.size<=b
 n0:zQe w0 w q0 F.1
 n1:zQe w0 w q1 F.2
theorem yQP.pu{w0:World}{s q0 q1:SV}{F:Fls}(h:yQP w0 w s q0 q1 F)(hp:Pu w w'):yQP w0 w' s q0 q1 F:=⟨h.row.pu hp,h.rn,h.n0.pu hp,h.n1.pu hp⟩
theorem yQP.keep{w0:World}{s q0 q1:SV}{F:Fls}(h:yQP w0 w s q0 q1 F)(hF:F.1.length<=2000000000/\F.2.length<=2000000000){B:Nat->Prop}(hB:∀b,B b->b<w0.heap.size):zX9 B w s q0 q1 F:=λw3 h3=>
 files_row (h.row.fr h3 λb hb e=>by have:=h.rn b hb;have:=hB b e;omega) ((h.n0.fr h3 λb hb e=>by have:=h.n0.2 b hb;have:=hB b e;omega).by (by omega)) ((h.n1.fr h3 λb hb e=>by have:=h.n1.2 b hb;have:=hB b e;omega).by (by omega))
theorem yYt{e:TypeId}{sz g n c:Nat}{vs:List Value}(h:zQj w e sz ⟨some ⟨g,0,none⟩,n,c⟩ vs):∃cur,w.heap[g]?=some (.cells cur e):=by
 obtain⟨_,h|⟨g',cur,h3,h4,_⟩⟩:=h
 ·cases h
 ·cases h3;exact⟨cur,h4⟩
theorem yVk{g lo c:Nat}{m:SV}(hm:m.len=0)(w:World):(Builtin.copy_ #[22,22] 3 #[.slice (some ⟨g,lo,none⟩) 0 c,.slice m.a m.len m.cap]).run prog w=.ok (.int .i64 ((0:Nat):Int)) w:=by
 obtain⟨i,h2,h3,h4,h5⟩:=info_parts vi5
 rw[hm]
 cases m.a <;> simp[Builtin.copy_,run_underlying vu22,Builtin.lenOf,Builtin.firstCells,sizeOf,typeInfo,h2,storeCells,loadCells,loadCellsFrom,goInt]
theorem zWu{s q0 q1:SV}{F:Fls}(h:zXx w s q0 q1 F)(hF:F.1.length<=900000000/\F.2.length<=900000000):Calls prog 46 #[slV s] w λe w'=>∃o r0 r1:SV,e=.returned (slV o)/\yQP w w' o r0 r1 F/\Pu w w':=by
 have hl:=h.len
 obtain⟨i,h2,h3,h4,h5⟩:=info_parts vi22
 have zA:prog.underlying 83=some (.slice 22):=by kernel_rfl
 obtain⟨w1,hr,hrow,ax,wB⟩:=zVm (P:=prog) (w:=w) zA h2 h3 h4 .i64 .i64 2 (by rw[h5];omega) (by omega)
 rw[show(Value.slice none 0 0).cells=#[.slice none 0 0]from rfl,toList_madeCells_one,Nat.mul_one]at hrow
 refine yY3 _ w _ ⟨⟨some ⟨w.heap.size,0,none⟩,2,2⟩,w1,hr,?_⟩
 have one:∀{wz:World} {J:Int->World->Prop} {n:Nat} {qi:SV} {di:List UInt8} {v:List Value},n<2->[slV q0,slV q1][n]?=some (slV qi)->(∀{wy:World},Pu w wy->ByV wy qi di)->di.length<=900000000->Pu w wz->zQj wz 22 1 ⟨some ⟨w.heap.size,0,none⟩,2,2⟩ v->v.length=2->
   (∀wy b,zQj wy 22 1 ⟨some ⟨w.heap.size,0,none⟩,2,2⟩ (v.set n (slV b))->zQe wz wy b di->Pu w wy->Fr (·=w.heap.size) wz wy->J (IntKind.i64.wrap ((n:Int)+1)) wy)->
   xWy (λe w'=>∃o r0 r1:SV,e=.returned (slV o)/\yQP w w' o r0 r1 F/\Pu w w') J ⟨some ⟨w.heap.size,0,none⟩,2,2⟩ s ((s.len:Nat):Int) (n:Int) [] wz:=λ{wz J n qi di v} hn hqi hbi hdi hpz hrz hv hJ=>by
  refine Br.of (λc=>?_) (λc=>absurd (zQd c) (by omega))
  obtain⟨a,ha,c0,c1⟩:=(h.pu hpz).ex
  have hq:=hbi hpz
  have hql:=hq.len
  refine⟨a,ha,by omega,by omega,qi,?_,?_⟩
  ·rw[zZc,Nat.mul_one]
   rcases(by omega:n=0∨n=1)with rfl|rfl
   ·exact c0.trans hqi
   ·exact c1.trans hqi
  obtain⟨wy,hry,ny,hpy⟩:=zY7 di.length (by omega) wz
  refine⟨⟨some ⟨wz.heap.size,0,none⟩,di.length,di.length⟩,wy,by rw[show((qi.len:Nat):Int)=((di.length:Nat):Int)by omega];exact hry,?_⟩
  obtain⟨a1,zo,hst⟩:∃a1,(some (⟨w.heap.size,0,none⟩:Addr))=some a1/\Sh.st1 (a1.add n) (slV ⟨some ⟨wz.heap.size,0,none⟩,di.length,di.length⟩) wy λw5=>
    ∃a6:Addr,(some (⟨w.heap.size,0,none⟩:Addr))=some a6/\0<=(n:Int)/\(n:Int)<((2:Nat):Int)/\
    ∃fC:SV,w5.cell? (a6.add ((n:Int).toNat * 1))=some (.slice fC.a fC.len fC.cap)/\
    ∃bF:Int,∃w7:World,(Builtin.copy_ #[22,22] 3 #[.slice fC.a fC.len fC.cap,.slice qi.a qi.len qi.cap]).run prog w5=.ok (.int .i64 bF) w7/\J (IntKind.i64.wrap ((n:Int)+1)) w7:=by
   refine(hrz.pu hpy).st1 (by rw[hv];exact hn) _ λw5 h5 cr kG=>?_
   obtain⟨a6,y7,c6,_⟩:=h5.cell (j:=n) (v:=slV ⟨some ⟨wz.heap.size,0,none⟩,di.length,di.length⟩) (by rw[List.getElem?_set_self (by rw[hv];exact hn)])
   refine⟨a6,y7,by omega,by omega,⟨some ⟨wz.heap.size,0,none⟩,di.length,di.length⟩,by rw[zZc,Nat.mul_one];exact c6,?_⟩
   have hne:w.heap.size ≠ wz.heap.size:=by obtain⟨cur,hcur⟩:=yYt hrz;have:=zQz hcur;omega
   have n5:=ny.fr cr λb hb e=>by simp[zQb]at hb e;omega
   have sa:Fr (·=w.heap.size) wy w5:=cr.mono λb hb _=>by simp[zQb]at hb;exact hb.symm ▸ rfl
   have aV:Pu w w5:=(hpz.trans hpy).andNew sa λb hb=>by rw[show b=_ from hb];exact Nat.le_refl _
   by_cases rg:di=[]
   ·subst rg
    refine⟨_,w5,yVk hql w5,hJ w5 _ h5 n5 aV ((Fr.pu hpy:Fr (·=w.heap.size) wz wy).trans sa λb hb _=>hb)⟩
   ·obtain⟨w7,mc,n7,oC⟩:=zVR (lo:=0) (n:=di.length) (c:=di.length) n5 rfl (hbi aV) rg rfl (by simp)
    refine⟨_,w7,mc,hJ w7 _ (h5.fr oC λb hb e=>?_) ?_ (aV.andNew oC λb hb=>?_) ?_⟩
    ·simp[zQb]at hb e;omega
    ·simpa using n7
    ·simp[zQb]at hb;have:=hpz.size;omega
    ·exact((Fr.pu hpy:Fr (·=w.heap.size) wz wy).trans sa λb hb _=>hb).trans oC λb hb hlt=>by simp[zQb]at hb;omega
  exact⟨a1,zo,by omega,by show(n:Int)<((2:Nat):Int);omega,by rw[show a1.add ((n:Int).toNat * 1)=a1.add n by rw[zZc,Nat.mul_one]];exact hst⟩
 have hz:∀{b:Nat},b ∈ zQb (⟨some ⟨w.heap.size,0,none⟩,2,2⟩:SV)->b=w.heap.size:=λhb=>by simp[zQb]at hb;exact hb
 refine zQ0 2 (λn t w'=>t=(n:Int)/\Pu w w'/\(n=0->zQj w' 22 1 ⟨some ⟨w.heap.size,0,none⟩,2,2⟩ [.slice none 0 0,.slice none 0 0])/\(n=1->∃r0,zQj w' 22 1 ⟨some ⟨w.heap.size,0,none⟩,2,2⟩ [slV r0,.slice none 0 0]/\zQe w w' r0 F.1)/\
   (n=2->∃r0 r1,yQP w w' ⟨some ⟨w.heap.size,0,none⟩,2,2⟩ r0 r1 F)) ⟨rfl,ax,λ_=>hrow,λe=>absurd e (by decide),λe=>absurd e (by decide)⟩ ?_
 rintro n J t wz hn ⟨ht,hpz,i0,i1,i2⟩ hJ
 obtain rfl:t=(n:Int):=ht
 rcases(by omega:n=0∨n=1∨n=2)with rfl|rfl|rfl
 ·refine one (by omega) rfl (λhp=>(h.pu hp).b0) hF.1 hpz (i0 rfl) rfl λwy b hry hb hpy hfy=>?_
  rw[zQa (by omega) (by omega)]
  exact hJ _ _ (by omega) ⟨rfl,hpy,λe=>absurd e (by decide),λ_=>⟨b,hry,hb.low hpz.size⟩,λe=>absurd e (by decide)⟩
 ·obtain⟨r0,nL,mg⟩:=i1 rfl
  refine one (by omega) rfl (λhp=>(h.pu hp).b1) hF.2 hpz nL rfl λwy b hry hb hpy hfy=>?_
  rw[zQa (by omega) (by omega)]
  refine hJ _ _ (by omega) ⟨rfl,hpy,λe=>absurd e (by decide),λe=>absurd e (by decide),λ_=>⟨r0,b,hry,λk hk=>by rw[hz hk];exact Nat.le_refl _,mg.fr hfy λk hk e=>by obtain⟨cur,hcur⟩:=yYt nL;exact mg.1.other hcur (by decide) (by rw[←show k=_ from e];exact hk),hb.low hpz.size⟩⟩
 ·refine Br.of (λc=>absurd (zQk c) (by omega)) λc=>?_
  obtain⟨r0,r1,hN⟩:=i2 rfl
  exact⟨_,r0,r1,rfl,hN,hpz⟩
end Go.Proofs.YtaeecpjhfmcliaaGreatDoor
/- The log: files told; a whole table as a record; a row read by itself; some records told. No condition but those stated. -/
namespace Go.Proofs.YtaeecpjhfmcliaaGreatDoor
open Go.Sh Go.RowKit Tryz
variable {w w' : World}
theorem vk63:zXq prog 63=2:=by kernel_rfl
theorem xZE{s q0 q1:SV}{F:Fls}(h:zXx w s q0 q1 F)(hF:F.1.length<=900000000/\F.2.length<=900000000):Calls prog 51 #[slV s] w λe w'=>∃r0 r1:SV,e=.returned (.agg #[slV r0,slV r1])/\zQe w w' r0 F.1/\zQe w w' r1 F.2/\Pu w w':=by
 refine yVy _ w _ (alB λw1 ax aE=>(zWu (h.pu ax) hF).mono ?_)
 rintro e w2 ⟨o,r0,r1,rfl,hN,ar⟩
 have me:w.heap.size<w1.heap.size:=zQz aE
 refine⟨o,rfl,zQf λw3 aA _=>?_⟩
 have hN:=hN.pu aA
 obtain⟨a,ha,c0,_⟩:=hN.row.cell (j:=0) (v:=slV r0) rfl
 obtain⟨a',ha',c1,_⟩:=hN.row.cell (j:=1) (v:=slV r1) rfl
 have oK:=ha
 rw[ha']at oK;cases oK
 have hol:o.len=2:=by have:=hN.row.1;simp at this;omega
 refine⟨a,ha,by omega,by omega,r0,c0,a,ha,by omega,by omega,r1,c1,zQh ((ar.trans aA).blk aE) vk63.symm rfl rfl λw6 gi gN _=>?_⟩
 have ne:∀{s:SV} {l:List UInt8},zQe w1 w3 s l->zQe w w6 s l:=λhn=>(hn.fr gN λb hb e=>by have:=hn.2 b hb;have e:b=w.heap.size:=e;omega).low ax.size
 exact⟨r0,cl gi 0,r1,cl gi 1,r0,r1,rfl,ne hN.n0,ne hN.n1,((ax.trans ar).trans aA).andNew gN λi hi=>by rw[show i=_ from hi];exact Nat.le_refl _⟩
theorem yJE{f:Fld}(h:zQn f=true)(p:Int):zQM f p (zXt f)=true:=by
 unfold zQn at h
 simp only[Bool.and_eq_true]at h
 have hk:=h.2
 unfold zKY at hk
 have vz:∀k:Int,okN k 0=true->zXc ⟨k,0,⟨#[]⟩⟩=0:=λk h=>by
  rw[zZg,if_neg (by show ¬2048<0;omega),if_pos]
  show(okN k 0 && (decide (k=4) || decide ((0:Nat)=0)))=true
  rw[h];simp
 by_cases h5:f.kind=5
 ·unfold zXt zQM
  rw[if_pos h5,if_neg (by rw[vz 2 (by decide)];simp),if_neg (by decide),if_pos h5];decide
 have e:zXt f=⟨f.kind,0,⟨#[]⟩⟩:=by unfold zXt;rw[if_neg h5]
 have hkk:f.kind=1∨f.kind=2∨f.kind=3∨f.kind=4:=by
  by_cases h1:f.kind=1
  ·exact .inl h1
  ·by_cases h2:f.kind=2
   ·exact .inr (.inl h2)
   ·by_cases h3:f.kind=3
    ·exact .inr (.inr (.inl h3))
    ·by_cases h4:f.kind=4
     ·exact .inr (.inr (.inr h4))
     ·rw[if_neg h1,if_neg h2,if_neg h3,if_neg h4,if_neg h5]at hk
      cases hk
 have hv:zXc (zXt f)=0:=by
  rw[e]
  refine vz _ ?_
  rcases hkk with h|h|h|h <;> rw[h] <;> decide
 have base:∀b:Bool,(if f.kind=2 then decide (((zZ7 0).length:Int)<=f.width)else if f.kind=4 then decide (((0:Nat):Int)<=f.width) && decide (zZo ([]:List UInt8)=[]) && zXM [] p else true)=b->zQM f p (zXt f)=b:=λb hb=>by
  unfold zQM
  rw[if_neg (by rw[hv];simp),if_neg (by rw[e];show ¬f.kind=0;omega),if_neg h5,if_neg (by rw[e];simp)]
  rw[e];exact hb
 refine base true ?_
 have hd:(zZ7 0).length=1:=by decide +kernel
 rcases hkk with h|h|h|h
 ·rw[if_neg (by omega),if_neg (by omega)]
 ·rw[if_pos h,hd]
  rw[if_neg (by omega),if_pos h]at hk
  simp at hk ⊢;omega
 ·rw[if_neg (by omega),if_neg (by omega)]
 ·rw[if_neg (by omega),if_pos h]
  rw[if_neg (by omega),if_neg (by omega),if_neg (by omega),if_pos h]at hk
  simp at hk
  have:decide (((0:Nat):Int)<=f.width)=true:=by simp;omega
  rw[this];rfl
theorem yW3{x t:Tbl}(hx:zQi x=0)(ht:t.recs.length<=300){rest:List UInt8}(h:zQ1 x=zZO t ++ rest):x.recs.length=t.recs.length:=by
 obtain⟨d,hd⟩:∃d,d=zQ1 x:=⟨_,rfl⟩
 obtain⟨_,_,p2,_⟩:=zWo (u:=x) hd.symm
 have hn:=(zXw.of hx).n300
 have h1:=zXe t.recs.length 4
 have q2:(d.drop 2).take 4=zWZ t.recs.length 4:=by
  rw[hd,h]
  unfold zZO
  simp only[List.append_assoc,List.cons_append,List.nil_append,List.drop_succ_cons,List.drop_zero]
  rw[List.take_append_of_le_length (by omega),List.take_of_length_le (by omega)]
 have:=congrArg zQL (p2.symm.trans q2)
 rw[←zKV,←zKV,zZQ,zZQ,Nat.mod_eq_of_lt (by omega),Nat.mod_eq_of_lt (by omega)]at this
 exact this
def RowR(w:World)(t:Tbl)(b:List UInt8):Rt:=λe w'=>Pu w w'/\∃(g:Bool) (q:SV) (ok:Bool),e=.returned (.tuple #[.agg #[.bool g,slV q],.bool ok])/\((ok=false/\yQB t b=none)∨ok=true/\∃x,yQB t b=some x/\g=x.gone/\zJy w w' q x.v)
theorem xJ9{t:Tbl}{f r s:SV}{b:List UInt8}(hpg:zZZ t.page)(hpB:zQT t.page=true)(hf:zXF w f t.fields)(hvf:zQG t.fields=0)(hb:ByV w s b)(hbl:b.length<=10000):Calls prog 129 #[.agg #[.int .i64 t.page,slV f,slV r],slV s] w (RowR w t b):=by
 obtain⟨hne,hall,_,gk,hwide⟩:=zXf hvf
 have hlim:Lim.ok t.fields:=λg hg=>by
  have:=(zQR (List.all_eq_true.1 hall g hg)).2.1
  show g.name.size<=140737488355328
  omega
 refine yKn _ _ _ _ w _ (alB λw1 ax aE=>alB λw2 ar aN=>⟨f,cl (ar.blk aE) 1,?_⟩)
 have aM:=ax.trans ar
 refine(xWc (hf.pu aM) hlim).mono ?_
 rintro e w3 ⟨q3,rfl,hV3,aA⟩
 have aZ:=aM.trans aA
 refine⟨false,q3,_,rfl,alB λw4 aJ cA=>zQh cA xZs.symm rfl rfl λw5 bi cr _=>?_⟩
 have bL:Pu w3 w5:=aJ.andNew cr λi hi=>by rw[show i=_ from hi];exact Nat.le_refl _
 have cV:=aZ.trans bL
 have gJ:=bL.blk (aA.blk (ar.blk aE))
 have hV5:=hV3.pu bL
 refine⟨_,cl0 gJ,f,cl gJ 1,false,cl bi 0,q3,cl bi 1,alB λw6 bV gi=>?_⟩
 have cU:=cV.trans bV
 have hbv:zZC t.fields=t.fields.map zXt:=by unfold zZC;rw[if_pos hvf]
 have hV6:=hV5.pu bV
 -- the table of an empty record alone
 have hright:zQi { t with recs:=[⟨false,zZC t.fields⟩] }=0:=zJQ hpB hvf (by simp) λx hx=>by
  rw[List.mem_singleton.1 hx]
  refine zKg.2 ⟨by rw[hbv];simp,λi g v hg hv=>?_⟩
  rw[hbv,List.getElem?_map,hg]at hv
  cases hv
  exact yJE (List.all_eq_true.1 hall g (List.mem_of_getElem? hg)) t.page
 have mv:=zWq hright
 have vB:zXF w6 ⟨some ⟨w5.heap.size,0,none⟩,1,1⟩ [(⟨false,zZC t.fields⟩:Rec)]:=by
  refine⟨rfl,Nat.le_refl _,by show 1<=140737488355328;omega,λi x hx=>?_⟩
  have vQ:i=0:=by have:=(List.getElem?_eq_some_iff.1 hx).1;simp at this;exact this
  subst vQ
  simp at hx;subst hx
  obtain⟨v64,vl⟩:=mv ⟨false,zZC t.fields⟩ (by simp)
  refine⟨⟨w5.heap.size,0,none⟩,rfl,[.bool false,slV q3],⟨q3,rfl,hV6.rdS vl v64⟩,λj v hv=>?_⟩
  rcases j with _|_|j <;> simp at hv
  ·subst hv;exact cl gi 0
  ·subst hv;exact cl gi 1
 refine(yYR (t:={ t with recs:=[⟨false,zZC t.fields⟩] }) ⟨hpg,hf.pu cU,vB⟩ hlim).mono ?_
 rintro e w7 ⟨q7,rfl,h7,cK⟩
 rw[if_pos hright]at h7
 have iO:=cU.trans cK
 have hhl:(zZO { t with recs:=[⟨false,zZC t.fields⟩] }).length=13+16 * t.fields.length:=zWn (zJt.of hright)
 have nH:=hb.pu iO
 obtain⟨q8,w8,zB,n8,sb⟩:=h7.app cK.size (m:=s) (news:=b) nH.len (λj c hj=>by
  obtain⟨a,ha,hc⟩:=nH.get j c hj
  exact⟨a,ha,by rw[Nat.mul_one]at hc;exact hc⟩) (by omega)
 have lr:Pu w6 w8:=cK.andNew sb h7.2
 refine⟨q7,_,rfl,q8,w8,zB,alB λw9 eH kH=>?_⟩
 obtain⟨zt,aU,rY,gb,jR⟩:=(n8.pu eH).one (lr.trans eH).size (r:=w8.heap.size) (b:=26) kH rfl (by rw[List.length_append,hhl];omega)
 have hp6a:Pu w6 aU:=(lr.trans eH).andNew jR n8.2
 have hp0a:=cU.trans hp6a
 refine⟨zt,aU,rY,?_⟩
 refine(yZE (gb.by (by simp only[List.length_append,hhl,List.length_singleton];omega)) (by simp only[List.length_append,hhl,List.length_singleton];omega)).mono ?_
 rintro e aT ⟨u,fu,ru,cd,rfl,hO,hNi,iM,hRO⟩
 have hp0b:=hp0a.trans iM
 have me:w.heap.size<w1.heap.size:=zQz aE
 have ws:w1.heap.size<w2.heap.size:=zQz aN
 have z10:=hp0a.size
 have z2a:=(((aA.trans bL).trans bV).trans hp6a).size
 refine⟨_,fu,ru,_,rfl,alB λaX cT kK=>zQh kK zWx.symm rfl rfl λaK kL zC _=>?_⟩
 have lu:Pu aT aK:=cT.andNew zC λi hi=>by rw[show i=_ from hi];exact Nat.le_refl _
 have hp0d:=hp0b.trans lu
 have vC:=lu.blk (iM.blk (hp6a.blk (bV.blk (bL.blk (aA.blk aN)))))
 have zD:=hO.pu lu
 refine Br.of (λc=>?_) (λc=>?_)
 ·have c:cd ≠ 0:=zQ5 c
  refine zQh vC xZs.symm rfl rfl λbH gl nr _=>⟨_,cl gl 0,⟨none,0,0⟩,cl gl 1,hp0d.andNew nr λi hi=>by rw[show i=_ from hi];omega,false,⟨none,0,0⟩,false,rfl,.inl ⟨rfl,?_⟩⟩
  rcases zJL hRO with⟨h0,_⟩|⟨_,hno,_⟩
  ·exact absurd h0 c
  ·unfold yQB;rw[hno];rfl
 ·have c:cd=0:=zQs c
  subst c
  have hro:=yJc hRO
  obtain⟨hvu,hbu⟩:=zXl hro
  have hcount:=yW3 (t:={ t with recs:=[⟨false,zZC t.fields⟩] }) hvu (by simp) (by rw[hbu,List.append_assoc])
  obtain⟨x,hx⟩:=zQZ (l:=u.recs) (k:=0) (by rw[hcount];simp)
  obtain⟨qs,k1,k2,k3,k4⟩:=zD.rs
  obtain⟨y,hy⟩:=zQZ (l:=qs) (k:=0) (by rw[k3,hcount];simp)
  obtain⟨e1,e2⟩:=k4 0 x y hx hy
  have hrul:=k1.len zQN (by decide)
  obtain⟨a,ha,_,c0⟩:=k1.elem zQN hy (o:=0) rfl
  obtain⟨a',ha',_,c1⟩:=k1.elem zQN hy (o:=1) rfl
  rw[ha]at ha';cases ha'
  refine⟨ru,cl kL 2,a,ha,by omega,by rw[hrul,k3,hcount];show(0:Int)<((1:Nat):Int);omega,y.1,c0,y.2,c1,zQh vC xZs.symm rfl rfl λbD oD vD _=>⟨_,cl oD 0,y.2,cl oD 1,hp0d.andNew vD λi hi=>by rw[show i=_ from hi];omega,y.1,y.2,true,rfl,.inr ⟨rfl,x,?_,e1,?_⟩⟩⟩
  ·unfold yQB
   rw[hro]
   show u.recs.head?=some x
   rw[List.head?_eq_getElem?];exact hx
  ·exact(e2.fr vD λk hk e=>by have:=e2.2 k hk;have e:k=w1.heap.size:=e;omega).low z10
end Go.Proofs.YtaeecpjhfmcliaaGreatDoor
/- The log: what tells some records of a table. No condition but those stated. -/
namespace Go.Proofs.YtaeecpjhfmcliaaGreatDoor
open Go.Sh Go.RowKit Tryz
variable {w w' : World}
def yWo(t:Tbl)(k:Int):List UInt8:=if (t.recs.length:Int)<k then []else zZ5 k.toNat 2 ++ xQm t k
theorem zYK(t:Tbl)(l:List Int):zXg t l=zZ5 t.recs.length 2 ++ l.flatMap (yWo t):=rfl
theorem yVA{t:Tbl}(hv:zQi t=0)(k:Int):(yWo t k).length<=2002:=by
 have ho:=zJt.of hv
 unfold yWo
 split
 ·simp
 ·rw[List.length_append,zQx]
  unfold xQm
  split
  ·rename_i r hr
   have h1:=zKa ho.all (ho.recs r (List.mem_of_getElem? hr))
   have h2:=ho.w2
   omega
  ·simp
theorem yWO {α:Type} {g:α->List UInt8} {n:Nat} (hg:∀x,(g x).length<=n):∀l:List α,(l.flatMap g).length<=l.length * n
 | []=>by simp
 | x :: l=>by
  have:=yWO hg l
  have:=hg x
  rw[List.flatMap_cons,List.length_append,List.length_cons,Nat.succ_mul];omega
theorem xXv{t:Tbl}{f r:SV}(h:zXD w t f r)(hv:zQi t=0){w0:World}{s:SV}{l:List Int}(hl:zVb w0 w s l)(hk:∀k ∈ l,1<=k/\k<=1000000)(hn:l.length<=1000) :
  Calls prog 112 #[zYj t f r,slV s] w λe w'=>∃q:SV,e=.returned (slV q)/\zQe w w' q (zXg t l)/\Pu w w':=by
 have ho:=zJt.of hv
 have hsl:=hl.len
 have hrl:=h.recs.len
 have fK:=ho.m300
 refine yJY _ _ _ _ w _ (alB λw1 ax aE=>⟨r,cl aE 2,?_⟩)
 rw[show((r.len:Nat):Int)=((t.recs.length:Nat):Int)by omega]
 refine(yZG t.recs.length 2 (by omega) (by omega) w1).mono ?_
 rintro e w2 ⟨q2,rfl,nt,ar⟩
 refine⟨q2,rfl,?_⟩
 rw[show((s.len:Nat):Int)=((l.length:Nat):Int)by omega]
 refine zQ0 l.length (λk u w'=>u.2=(k:Int)/\zQe w1 w' u.1 (zZ5 t.recs.length 2 ++ (l.take k).flatMap (yWo t))/\Pu w1 w') ⟨rfl,by simpa using nt,ar⟩ ?_
 rintro k J ⟨u1,u2⟩ wa hka ⟨rS,hr,hp⟩ hJ
 obtain rfl:u2=(k:Int):=rS
 have hr:zQe w1 wa u1 (zZ5 t.recs.length 2 ++ (l.take k).flatMap (yWo t)):=hr
 dsimp only
 have hpa:=ax.trans hp
 have b1a:=hp.blk aE
 refine Br.of (λc=>?_) (λc=>?_)
 ·have aG:k<l.length:=by have:=zQk c;omega
  obtain⟨x,hx⟩:=zQZ aG
  obtain⟨x1,x2⟩:=hk x (List.mem_of_getElem? hx)
  obtain⟨a,ha,hc,_⟩:=(hl.pu hpa).1.cell (j:=k) (v:=xQq x) (by rw[List.getElem?_map,hx];rfl)
  refine⟨a,ha,by omega,by omega,x,by rw[zZc,Nat.mul_one];exact hc,r,cl b1a 2,?_⟩
  have htk:(l.take (k+1)).flatMap (yWo t)=(l.take k).flatMap (yWo t) ++ yWo t x:=by rw[zQ8 hx,List.flatMap_append];simp
  have hfl:((l.take k).flatMap (yWo t)).length<=2002000:=by
   have h1:=yWO (yVA hv) (l.take k)
   have h2:(l.take k).length<=1000:=by rw[List.length_take];omega
   have h3:=Nat.mul_le_mul_right 2002 h2
   omega
  have hcx:=yVA hv x
  refine Br.of (λc2=>?_) (λc2=>?_)
  ·have c2:=zQk c2
   have e:yWo t x=[]:=by unfold yWo;rw[if_pos (by omega)]
   rw[zQa (by omega) (by omega)]
   exact hJ _ _ aG ⟨rfl,by dsimp only;rw[htk,e,List.append_nil];exact hr,hp⟩
  ·have c2:=zQd c2
   refine⟨_,cl b1a 0,f,cl b1a 1,r,cl b1a 2,(rowE_c (sh:=zQp) (h.pu hpa) (zZL hv) x ⟨by omega,by omega⟩ (λ_ y hy=>⟨zXs.writes ho.all (ho.recs y hy),zXs.ne ho.all (ho.recs y hy) ho.ne⟩)).mono ?_⟩
   rintro e w5 ⟨q5,rfl,h5,aV⟩
   have hro:zY6 zQp t x=xQm t x:=by
    unfold zY6 xQm
    rw[if_pos (by unfold zZG;rw[if_neg (by rw[hv];simp),if_neg (by omega)])]
    all_goals (cases t.recs[(x - 1).toNat]? <;> rfl)
   rw[hro]at h5
   refine⟨q5,_,rfl,?_⟩
   rw[show x=((x.toNat:Nat):Int)by omega]
   refine(yZG x.toNat 2 (by omega) (by omega) w5).mono ?_
   rintro e w6 ⟨q6,rfl,h6,bV⟩
   have cG:=(hp.trans aV).trans bV
   obtain⟨q7,w7,mc,n7,oC⟩:=((hr.pu aV).pu bV).app cG.size (m:=q6) (news:=zZ5 x.toNat 2) h6.len (λj b hj=>h6.cell hj) (by rw[List.length_append,zQx,zQx];omega)
   have ec:yWo t x=zZ5 x.toNat 2 ++ xQm t x:=by unfold yWo;rw[if_neg (by omega)]
   have hrb:(xQm t x).length<=2002:=by rw[ec,List.length_append]at hcx;omega
   have h57:zQe wa w7 q5 (xQm t x):=(h5.pu bV).fr oC λb hb e=>by
    have h1:=h5.2 b hb
    have h2:=hr.1.lt b e
    omega
   obtain⟨q8,w8,zB,n8,sb⟩:=n7.app (by have:=cG.size;have:=oC.size;omega) (m:=q5) (news:=xQm t x) h57.len (λj b hj=>h57.cell hj) (by simp only[List.length_append,zQx];omega)
   have lw:Pu w1 w7:=cG.andNew oC hr.2
   refine⟨q6,rfl,q7,w7,mc,q8,w8,zB,?_⟩
   rw[zQa (by omega) (by omega)]
   refine hJ _ _ aG ⟨rfl,?_,lw.andNew sb n7.2⟩
   dsimp only
   rw[htk,ec,←List.append_assoc,←List.append_assoc,List.append_assoc (zZ5 t.recs.length 2)]at *
   exact n8
 ·have aG:k=l.length:=by have:=zQd c;omega
  subst aG
  rw[List.take_length]at hr
  exact⟨u1,rfl,by rw[zYK];exact hr.low ax.size,hpa⟩
end Go.Proofs.YtaeecpjhfmcliaaGreatDoor
/- The log: what is told of records changes a table: one of them. No condition but those stated. -/
namespace Go.Proofs.YtaeecpjhfmcliaaGreatDoor
open Go.Sh Go.RowKit Tryz
variable {w w' : World}
def chgT(R:Rt)(J1:SV->World->Prop)(p2 p4:Option Addr)(n6 n8 ct:Int)(l9:SV)(bU:Nat)(im:Bool)(ds:Ds)(aK:World):Prop:=
 Br (!im) (
 zQg p2 λft=>
 ∃aW:Int,aK.cell? (ft.add 0)=some (.int .i64 aW)/\
 ∃au:SV,aK.cell? (ft.add 1)=some (.slice au.a au.len au.cap)/\
 ∃aw:SV,aK.cell? (ft.add 2)=some (.slice aw.a aw.len aw.cap)/\
 zQg p4 λkO=>
 stA prog 35 kO #[.int .i64 aW,.slice au.a au.len au.cap,.slice aw.a aw.len aw.cap] aK λbT=>
 zQc prog ds bT λbD=>
 zQg p4 λgn=>
 ∃ag:Int,bD.cell? (gn.add 0)=some (.int .i64 ag)/\
 ∃ab:SV,bD.cell? (gn.add 1)=some (.slice ab.a ab.len ab.cap)/\
 ∃ae:SV,bD.cell? (gn.add 2)=some (.slice ae.a ae.len ae.cap)/\
 R (.returned (.tuple #[.agg #[.int .i64 ag,.slice ab.a ab.len ab.cap,.slice ae.a ae.len ae.cap],.bool false])) bD) (
 Br (decide (ct<1)) (
 zQg p2 λkP=>
 ∃aW:Int,aK.cell? (kP.add 0)=some (.int .i64 aW)/\
 ∃au:SV,aK.cell? (kP.add 1)=some (.slice au.a au.len au.cap)/\
 ∃aw:SV,aK.cell? (kP.add 2)=some (.slice aw.a aw.len aw.cap)/\
 zQg p4 λa20=>
 stA prog 35 a20 #[.int .i64 aW,.slice au.a au.len au.cap,.slice aw.a aw.len aw.cap] aK λbX=>
 zQc prog ds bX λdQ=>
 zQg p4 λrJ=>
 ∃ag:Int,dQ.cell? (rJ.add 0)=some (.int .i64 ag)/\
 ∃ab:SV,dQ.cell? (rJ.add 1)=some (.slice ab.a ab.len ab.cap)/\
 ∃ae:SV,dQ.cell? (rJ.add 2)=some (.slice ae.a ae.len ae.cap)/\
 R (.returned (.tuple #[.agg #[.int .i64 ag,.slice ab.a ab.len ab.cap,.slice ae.a ae.len ae.cap],.bool false])) dQ) (
 zQg p2 λrz=>
 ∃lO:SV,aK.cell? (rz.add 2)=some (.slice lO.a lO.len lO.cap)/\
 Br (decide (ct > (IntKind.i64.wrap (((lO.len:Nat):Int)+1)))) (
 zQg p2 λj3=>
 ∃aW:Int,aK.cell? (j3.add 0)=some (.int .i64 aW)/\
 ∃au:SV,aK.cell? (j3.add 1)=some (.slice au.a au.len au.cap)/\
 ∃aw:SV,aK.cell? (j3.add 2)=some (.slice aw.a aw.len aw.cap)/\
 zQg p4 λuL=>
 stA prog 35 uL #[.int .i64 aW,.slice au.a au.len au.cap,.slice aw.a aw.len aw.cap] aK λgR=>
 zQc prog ds gR λdf=>
 zQg p4 λmZ=>
 ∃ag:Int,df.cell? (mZ.add 0)=some (.int .i64 ag)/\
 ∃ab:SV,df.cell? (mZ.add 1)=some (.slice ab.a ab.len ab.cap)/\
 ∃ae:SV,df.cell? (mZ.add 2)=some (.slice ae.a ae.len ae.cap)/\
 R (.returned (.tuple #[.agg #[.int .i64 ag,.slice ab.a ab.len ab.cap,.slice ae.a ae.len ae.cap],.bool false])) df) (
 Br (decide (ct > 300)) (
 zQg p2 λkY=>
 ∃aW:Int,aK.cell? (kY.add 0)=some (.int .i64 aW)/\
 ∃au:SV,aK.cell? (kY.add 1)=some (.slice au.a au.len au.cap)/\
 ∃aw:SV,aK.cell? (kY.add 2)=some (.slice aw.a aw.len aw.cap)/\
 zQg p4 λrm=>
 stA prog 35 rm #[.int .i64 aW,.slice au.a au.len au.cap,.slice aw.a aw.len aw.cap] aK λfY=>
 zQc prog ds fY λga=>
 zQg p4 λob=>
 ∃ag:Int,ga.cell? (ob.add 0)=some (.int .i64 ag)/\
 ∃ab:SV,ga.cell? (ob.add 1)=some (.slice ab.a ab.len ab.cap)/\
 ∃ae:SV,ga.cell? (ob.add 2)=some (.slice ae.a ae.len ae.cap)/\
 R (.returned (.tuple #[.agg #[.int .i64 ag,.slice ab.a ab.len ab.cap,.slice ae.a ae.len ae.cap],.bool false])) ga) (
 zQg p2 λnO=>
 ∃f7:SV,aK.cell? (nO.add 2)=some (.slice f7.a f7.len f7.cap)/\
 Br (decide (ct > ((f7.len:Nat):Int))) (
 zQg p2 λmz=>
 ∃ay:SV,aK.cell? (mz.add 2)=some (.slice ay.a ay.len ay.cap)/\
 ∃gG:Bool,aK.cell? ((⟨bU,0,none⟩:Addr).add 0)=some (.bool gG)/\
 ∃co:SV,aK.cell? ((⟨bU,0,none⟩:Addr).add 1)=some (.slice co.a co.len co.cap)/\
 alE (.cells #[.bool gG,.slice co.a co.len co.cap] 67) aK λbK nE=>
 ∃az:SV,∃kZ:World,(Builtin.append_ #[33,33] 33 #[.slice ay.a ay.len ay.cap,.slice (some ⟨bK,0,none⟩) 1 1]).run prog nE=.ok (.slice az.a az.len az.cap) kZ/\
 zQg p2 λyN=>
 st1 (yN.add 2) (.slice az.a az.len az.cap) kZ λnU=>
 zYc R J1 p2 p4 n6 n8 l9 ds nU) (
 zQg p2 λti=>
 ∃kA:SV,aK.cell? (ti.add 2)=some (.slice kA.a kA.len kA.cap)/\
 ∃gH:Bool,aK.cell? ((⟨bU,0,none⟩:Addr).add 0)=some (.bool gH)/\
 ∃cp:SV,aK.cell? ((⟨bU,0,none⟩:Addr).add 1)=some (.slice cp.a cp.len cp.cap)/\
 ∃nQ:Addr,kA.a=some nQ/\0<=(IntKind.i64.wrap (ct - 1))/\(IntKind.i64.wrap (ct - 1))<((kA.len:Nat):Int)/\
 stA prog 67 (nQ.add ((IntKind.i64.wrap (ct - 1)).toNat * 2)) #[.bool gH,.slice cp.a cp.len cp.cap] aK λmK=>
 zYc R J1 p2 p4 n6 n8 l9 ds mK)))))
def badT(R:Rt)(p2 p4:Option Addr)(ds:Ds)(aK:World):Prop:=
 zQg p2 λft=>
 ∃aW:Int,aK.cell? (ft.add 0)=some (.int .i64 aW)/\
 ∃au:SV,aK.cell? (ft.add 1)=some (.slice au.a au.len au.cap)/\
 ∃aw:SV,aK.cell? (ft.add 2)=some (.slice aw.a aw.len aw.cap)/\
 zQg p4 λkO=>
 stA prog 35 kO #[.int .i64 aW,.slice au.a au.len au.cap,.slice aw.a aw.len aw.cap] aK λbT=>
 zQc prog ds bT λbD=>
 zQg p4 λgn=>
 ∃ag:Int,bD.cell? (gn.add 0)=some (.int .i64 ag)/\
 ∃ab:SV,bD.cell? (gn.add 1)=some (.slice ab.a ab.len ab.cap)/\
 ∃ae:SV,bD.cell? (gn.add 2)=some (.slice ae.a ae.len ae.cap)/\
 R (.returned (.tuple #[.agg #[.int .i64 ag,.slice ab.a ab.len ab.cap,.slice ae.a ae.len ae.cap],.bool false])) bD
def xW6(w:World)(t:Tbl)(body:List UInt8):Rt:=λe w'=>Pu w w'/\∃(p:Int) (q1 q2:SV) (b:Bool),e=.returned (.tuple #[.agg #[.int .i64 p,slV q1,slV q2],.bool b])/\
 ((b=false/\zQO t body=none)∨b=true/\∃u,zQO t body=some u/\p=u.page/\zWe w w' u q1 q2)
theorem zJU.other {w0:World} {s:SV} {rs:List Rec} {b:Nat} {c:Array Value} {e:TypeId} (h:zJU w0 w s rs) (hf:Fr (·=b) w w') (hb:w.heap[b]?=some (.cells c e)) (h1:e ≠ 67) (h2:e ≠ 73):zJU w0 w' s rs:=by
 obtain⟨qs,k1,k2,k3,k4⟩:=h
 exact⟨qs,k1.fr hf λk hk ek=>k1.other hb (Ne.symm h1) (by rw[←show k=b from ek];exact hk),k2,k3,λi r x hr hx=>⟨(k4 i r x hr hx).1,(k4 i r x hr hx).2.fr hf λk hk ek=>(k4 i r x hr hx).2.1.other hb (Ne.symm h2) (by rw[←show k=b from ek];exact hk)⟩⟩
theorem zJU.set {w0:World} {s q:SV} {rs:List Rec} (h:zJU w0 w s rs) {k:Nat} (hk:k<rs.length) {x:Rec} (hq:zJy w0 w q x.v) {K:World->Prop} (hK:∀w',zJU w0 w' s (rs.set k x)->Fr (· ∈ zQb s) w w'->K w') :
  ∃a,s.a=some a/\stA prog 67 (a.add (k * 2)) #[.bool x.gone,slV q] w K:=by
 obtain⟨qs,k1,k2,k3,k4⟩:=h
 refine k1.stElem zQN (by decide) (i:=k) (by omega) (x.gone,q) xZs.symm rfl λw1 h1 hf hs=>hK w1 ⟨qs.set k (x.gone,q),h1,k2,by rw[List.length_set,List.length_set,k3],λi r y hr hy=>?_⟩ hf
 rw[List.getElem?_set]at hr hy
 by_cases e:k=i
 ·subst e
  rw[if_pos rfl,if_pos (by omega)]at hy hr
  cases hr;cases hy
  exact⟨rfl,hq.fr hf (zQq hq.1 k1 (by decide))⟩
 ·rw[if_neg e]at hr hy
  obtain⟨e1,e2⟩:=k4 i r y hr hy
  exact⟨e1,e2.fr hf (zQq e2.1 k1 (by decide))⟩
theorem zXX{t:Tbl}(hv:zQi t=0):yQA t:=by
 have ho:=zJt.of hv
 have hp:=ho.page
 unfold zQT at hp
 simp only[Bool.and_eq_true,decide_eq_true_eq]at hp
 have gk:=ho.n16
 refine⟨⟨by omega,by omega⟩,λg hg=>?_,zWq hv,by omega,ho.m300,λg hg=>(zQR (List.all_eq_true.1 ho.all g hg)).2.1⟩
 have hg:=List.all_eq_true.1 ho.all g hg
 have h1:=yQq hg
 have h2:=zXh hg
 exact⟨⟨by omega,by omega⟩,⟨by omega,by omega⟩⟩
structure ChS(w0:World)(r2 r4:Nat)(t:Tbl)(qf:SV)(recs:List Rec)(w:World):Prop where
 ex:∃s,w.heap[r2]?=some (.cells #[.int .i64 t.page,slV qf,slV s] 35)/\zJU w0 w s recs
 b4:w.heap[r4]?=some (.cells #[.int .i64 0,.slice none 0 0,.slice none 0 0] 35)
 qf:zWr w0 w qf t.fields
 pu:Pu w0 w
 z2:w0.heap.size<=r2
 z4:w0.heap.size<=r4
 ne:r2 ≠ r4
theorem ChS.on{w0:World}{r2 r4:Nat}{t:Tbl}{qf:SV}{recs:List Rec}(h:ChS w0 r2 r4 t qf recs w)(hp:Pu w w'):ChS w0 r2 r4 t qf recs w':=by
 obtain⟨s,h1,h2⟩:=h.ex
 exact⟨⟨s,hp.blk h1,h2.pu hp⟩,hp.blk h.b4,h.qf.pu hp,h.pu.trans hp,h.z2,h.z4,h.ne⟩
theorem ChS.bad{w0:World}{r2 r4:Nat}{t:Tbl}{qf:SV}{recs:List Rec}{body:List UInt8}(h:ChS w0 r2 r4 t qf recs w)(hno:zQO t body=none):badT (xW6 w0 t body) (some ⟨r2,0,none⟩) (some ⟨r4,0,none⟩) [] w:=by
 obtain⟨s,h1,h2⟩:=h.ex
 refine⟨_,cl h1 0,qf,cl h1 1,s,cl h1 2,zQh h.b4 zWx.symm rfl rfl λw2 aN fq _=>⟨_,cl aN 0,qf,cl aN 1,s,cl aN 2,h.pu.andNew fq λi hi=>by rw[show i=_ from hi];exact h.z4,_,qf,s,false,rfl,.inl ⟨rfl,hno⟩⟩⟩
theorem xXE{w0:World}{r2 r4:Nat}{t:Tbl}{qf:SV}{recs:List Rec}{body:List UInt8}{J1:SV->World->Prop}{n6 n8:Int}{ct:Nat}{l9:SV}{bU:Nat}{ok g:Bool}{q:SV}{row:List UInt8}
  (h:ChS w0 r2 r4 t qf recs w) (hb:w.heap[bU]?=some (.cells #[.bool g,slV q] 67)) (hrow:(ok=false/\yQB t row=none)∨ok=true/\∃x,yQB t row=some x/\g=x.gone/\zJy w0 w q x.v) (fK:recs.length<=300)
  (hno:yQB t row=none∨ct<1∨recs.length+1<ct∨300<ct->zQO t body=none)
  (hJ:∀x w',yQB t row=some x->¬(ct<1∨recs.length+1<ct∨300<ct)->ChS w0 r2 r4 t qf (if recs.length<ct then recs ++ [x]else recs.set (ct - 1) x) w'->Fr (λb=>w0.heap.size<=b) w w'->zYc (xW6 w0 t body) J1 (some ⟨r2,0,none⟩) (some ⟨r4,0,none⟩) n6 n8 l9 [] w') :
  chgT (xW6 w0 t body) J1 (some ⟨r2,0,none⟩) (some ⟨r4,0,none⟩) n6 n8 (ct:Int) l9 bU ok [] w:=by
 obtain⟨s,h1,h2⟩:=h.ex
 have hsl:=h2.len
 refine Br.of (λc=>?_) (λc=>?_)
 ·have c:ok=false:=by simpa using c
  rcases hrow with⟨_,h0⟩|⟨h0,_⟩
  ·exact h.bad (hno (.inl h0))
  ·rw[c]at h0;cases h0
 have c:ok=true:=by simpa using c
 rcases hrow with⟨h0,_⟩|⟨_,x,hx,rfl,hV⟩
 ·rw[c]at h0;cases h0
 refine Br.of (λc1=>h.bad (hno (.inr (.inl (by have:=zQk c1;omega))))) (λc1=>⟨s,cl h1 2,?_⟩)
 have c1:=zQd c1
 rw[zQa (by omega) (by omega)]
 refine Br.of (λc2=>h.bad (hno (.inr (.inr (.inl (by have:=zQk c2;omega)))))) (λc2=>Br.of (λc3=>h.bad (hno (.inr (.inr (.inr (by have:=zQk c3;omega)))))) (λc3=>⟨s,cl h1 2,?_⟩))
 have c2:=zQd c2
 have c3:=zQd c3
 have hgood:¬(ct<1∨recs.length+1<ct∨300<ct):=by omega
 refine Br.of (λc4=>⟨s,cl h1 2,x.gone,cl hb 0,q,cl hb 1,alB λwa hpa ha=>?_⟩) (λc4=>⟨s,cl h1 2,x.gone,cl hb 0,q,cl hb 1,?_⟩)
 ·have c4:=zQk c4
  obtain⟨s',wb,hrb,nb,hfb⟩:=(h2.pu hpa).push (g:=x.gone) (vs:=x.v) (h.pu.trans hpa).size (hV.pu hpa) ha rfl (by omega)
  have h2b:=hfb.blk (hpa.blk h1) (λhk=>by obtain⟨qs,k1,_⟩:=h2.pu hpa;exact k1.other (hpa.blk h1) (by decide) hk)
  have h4b:=hfb.blk (hpa.blk h.b4) (λhk=>by obtain⟨qs,k1,_⟩:=h2.pu hpa;exact k1.other (hpa.blk h.b4) (by decide) hk)
  refine⟨s',wb,hrb,zQw h2b (by show 2<3;omega) λwc hwc hbc=>?_⟩
  have hfc:Fr (·=r2) wb wc:=by rw[hwc];exact Fr.cell wb _ _ _
  have hpb:Pu w0 wb:=(h.pu.trans hpa).andNew hfb (h2.pu hpa).own
  have hqf:zWr w0 wb qf t.fields:=(h.qf.pu hpa).fr hfb λk hk e=>by obtain⟨qs,k1,_⟩:=h2.pu hpa;exact zQq (h.qf.pu hpa).1 k1 (by decide) k hk e
  refine hJ x wc hx hgood ⟨⟨s',hbc,?_⟩,hfc.blk h4b (Ne.symm h.ne),hqf.fr hfc λk hk e=>hqf.1.other h2b (by decide) (by rw[←show k=r2 from e];exact hk),hpb.andNew hfc λi hi=>by rw[show i=_ from hi];exact h.z2,h.z2,h.z4,h.ne⟩ ?_
  ·rw[if_pos (by omega)];exact nb.other hfc h2b (by decide) (by decide)
  ·exact((Fr.pu hpa:Fr (λb=>w0.heap.size<=b) w wa).trans hfb λb hb _=>h2.own b hb).trans hfc λb hb _=>by rw[show b=_ from hb];exact h.z2
 ·have c4:=zQd c4
  rw[zQa (by omega) (by omega),show(ct:Int) - 1=((ct - 1:Nat):Int)by omega]
  obtain⟨a,ha,hst⟩:∃a,s.a=some a/\stA prog 67 (a.add ((ct - 1) * 2)) #[.bool x.gone,slV q] w λmK=>zYc (xW6 w0 t body) J1 (some ⟨r2,0,none⟩) (some ⟨r4,0,none⟩) n6 n8 l9 [] mK:=by
   refine h2.set (by omega) hV λwb nb hfb=>?_
   have vE:∀{b:Nat} {c:Array Value},w.heap[b]?=some (.cells c 35)->¬b ∈ zQb s:=λhb hk=>by obtain⟨qs,k1,_⟩:=h2;exact k1.other hb (by decide) hk
   refine hJ x wb hx hgood ⟨⟨s,hfb.blk h1 (vE h1),by rw[if_neg (by omega)];exact nb⟩,hfb.blk h.b4 (vE h.b4),h.qf.fr hfb λk hk e=>by obtain⟨qs,k1,_⟩:=h2;exact zQq h.qf.1 k1 (by decide) k hk e,h.pu.andNew hfb h2.own,h.z2,h.z4,h.ne⟩ (hfb.mono λb hb _=>h2.own b hb)
  exact⟨a,ha,by omega,by omega,by rw[zZc];exact hst⟩
end Go.Proofs.YtaeecpjhfmcliaaGreatDoor
/- The log: what is told of records changes a table. No condition but those stated. -/
namespace Go.Proofs.YtaeecpjhfmcliaaGreatDoor
open Go.Sh Go.RowKit Tryz
variable {w w' : World}
theorem zKF.newR{w0:World}{t:Tbl}{h:HT}(ht:zKF w0 w t h):zJU w0 w h.r t.recs:=
 ⟨h.hs,ht.tab.rw_,ht.rn,ht.tab.len,λi r x hr hx=>⟨(ht.tab.rec_ i x r hx hr).1,(ht.tab.rec_ i x r hx hr).2,λb hb=>ht.vn b (zVQ (List.mem_of_getElem? hx) hb)⟩⟩
theorem yYP{t:Tbl}{f r s:SV}{body:List UInt8}(h:zXD w t f r)(hv:zQi t=0)(hb:ByV w s body)(hbl:body.length<=1000000000):Calls prog 89 #[zYj t f r,slV s] w (xW6 w t body):=by
 have hR:=zXw.of hv
 have ho:=zJt.of hv
 have hl:=hb.len
 have hc:=hb.cap
 have mr:=ho.w2
 have qY:1<=zX0 t.fields:=by have:=zZD (WOk.of ho.all);unfold zX0;omega
 obtain⟨size,hsz⟩:∃size,size=(zX0 t.fields).toNat:=⟨_,rfl⟩
 have hszI:zX0 t.fields=((size:Nat):Int):=by omega
 refine yWG _ _ _ _ w _ (alB λw1 ax aE=>alB λw2 ar aN=>?_)
 have cO:=ar.blk aE
 have aM:=ax.trans ar
 have me:w.heap.size<w1.heap.size:=zQz aE
 refine⟨f,cl cO 1,(yY7 (h.fields.pu aM) (zZL hv)).mono ?_⟩
 rintro e w3 ⟨rfl,aA⟩
 have aZ:=aM.trans aA
 have lE:=aA.blk cO
 have rv:=aA.blk aN
 rw[if_pos hR.vf]
 refine⟨_,_,rfl,?_⟩
 -- a table that is not told, early
 have early:zQO t body=none->∃cD:Int,w3.cell? ((⟨w.heap.size,0,none⟩:Addr).add 0)=some (.int .i64 cD)/\∃bw:SV,w3.cell? ((⟨w.heap.size,0,none⟩:Addr).add 1)=some (.slice bw.a bw.len bw.cap)/\
   ∃bx:SV,w3.cell? ((⟨w.heap.size,0,none⟩:Addr).add 2)=some (.slice bx.a bx.len bx.cap)/\
   stA prog 35 (⟨w1.heap.size,0,none⟩:Addr) #[.int .i64 cD,.slice bw.a bw.len bw.cap,.slice bx.a bx.len bx.cap] w3 λsI=>
   ∃ag:Int,sI.cell? ((⟨w1.heap.size,0,none⟩:Addr).add 0)=some (.int .i64 ag)/\∃ab:SV,sI.cell? ((⟨w1.heap.size,0,none⟩:Addr).add 1)=some (.slice ab.a ab.len ab.cap)/\
   ∃ae:SV,sI.cell? ((⟨w1.heap.size,0,none⟩:Addr).add 2)=some (.slice ae.a ae.len ae.cap)/\
   xW6 w t body (.returned (.tuple #[.agg #[.int .i64 ag,.slice ab.a ab.len ab.cap,.slice ae.a ae.len ae.cap],.bool false])) sI:=λhno=>
  ⟨_,cl lE 0,f,cl lE 1,r,cl lE 2,zQh rv zWx.symm rfl rfl λw5 bi cr _=>⟨_,cl bi 0,f,cl bi 1,r,cl bi 2,aZ.andNew cr λi hi=>by rw[show i=_ from hi];omega,_,f,r,false,rfl,.inl ⟨rfl,hno⟩⟩⟩
 refine Br.of (λc=>early (by unfold zQO;rw[if_pos (.inl (by have:=zQk c;omega))])) (λc=>?_)
 have c:=zQd c
 rw[zQa (n:=zX0 t.fields+2) (by omega) (by omega),zQa (n:=((s.len:Nat):Int) - 2) (by omega) (by omega)]
 refine⟨rfl,by omega,?_⟩
 have hmod:(((s.len:Nat):Int) - 2).tmod (zX0 t.fields+2)=(((body.length - 2) % (size+2):Nat):Int):=by
  rw[hszI,show((s.len:Nat):Int) - 2=((body.length - 2:Nat):Int)by omega,show((size:Nat):Int)+2=((size+2:Nat):Int)by omega,Int.tmod_eq_emod_of_nonneg (by omega)]
  norm_cast
 rw[hmod]
 refine Br.of (λc1=>early (by
  unfold zQO
  rw[←hsz,if_pos (.inr (λe=>zQ5 c1 (by rw[e];rfl)))])) (λc1=>?_)
 have c1:(body.length - 2) % (size+2)=0:=by have:=zQs c1;omega
 have zE:=(hb.pu aZ).front (n:=2) (by omega)
 refine⟨by omega,by show 2<=s.cap;omega,by omega,(yQd zE (by rw[List.length_take];omega)).mono ?_⟩
 rintro e w4 ⟨rfl,aJ⟩
 have cW:=aZ.trans aJ
 have jY:=aJ.blk lE
 have nZ:=aJ.blk rv
 refine⟨_,rfl,_,cl jY 0,f,cl jY 1,r,cl jY 2,(zJf (h.pu cW) hv).mono ?_⟩
 rintro e w5 ⟨ht,rfl,hT,aV⟩
 have cV:=cW.trans aV
 have gJ:=aV.blk jY
 have nX:=aV.blk nZ
 have z4:=cW.size
 refine⟨_,ht.f,ht.r,rfl,zQh gJ zWx.symm rfl rfl λw6 gi gN _=>?_⟩
 have cU:Pu w w6:=cV.andNew gN λi hi=>by rw[show i=_ from hi];exact Nat.le_refl _
 have sv:=gN.blk nX (show ¬w1.heap.size=w.heap.size by omega)
 have zF:zKF w w6 t ht:=(hT.fr gN λb hb _ e=>by have e:b=w.heap.size:=e;have:=cW.size;have:=aZ.size;have:=aA.size;have l2:w1.heap.size<w2.heap.size:=zQz aN;have:=aJ.size;omega).low z4
 have S0:ChS w w.heap.size w1.heap.size t ht.f t.recs w6:=⟨⟨ht.r,by rw[gi,hT.tab.page],zF.newR⟩,sv,⟨zF.f,zF.fn⟩,cU,Nat.le_refl _,by omega,by omega⟩
 refine⟨hc,by omega,by show 2<=s.len;omega,?_⟩
 obtain⟨N,hN⟩:∃N,N=(body.length - 2) / (size+2):=⟨_,rfl⟩
 have hNm:N * (size+2)=body.length - 2:=by rw[hN];exact Nat.div_mul_cancel (Nat.dvd_of_mod_eq_zero c1)
 have hG:∀G,G=goC t size t.recs (body.drop 2)->zQO t body=G.bind λl=>if l.length=zQL (body.take 2)then some { t with recs:=l }else none:=λG hG=>by
  unfold zQO
  rw[←hsz,if_neg (by omega),hG]
 refine zQ0 N (λk q w'=>∃recs,ChS w w.heap.size w1.heap.size t ht.f recs w'/\recs.length<=300/\(∀x ∈ recs,zQA t.fields t.page x=0)/\(∀wv,Pu w wv->ByV wv q (body.drop (2+k * (size+2))))/\goC t size recs (body.drop (2+k * (size+2)))=goC t size t.recs (body.drop 2))
  ⟨t.recs,S0,hR.n300,hR.recs,λwv hpv=>by simpa using (hb.pu hpv).rest (lo:=2) (by omega),by simp⟩ ?_
 rintro k J q wa hk ⟨recs,hS,fK,hval,hqv,hgo⟩ hJ
 have hq:=hqv wa hS.pu
 have hql:=hq.len
 have hqc:=hq.cap
 rw[List.length_drop]at hql
 have hkm:k * (size+2)<=N * (size+2):=Nat.mul_le_mul_right _ hk
 refine Br.of (λd=>?_) (λd=>?_)
 ·have d:=zQk d
  have hkN:k<N:=by
   rcases Nat.lt_or_ge k N with h|h
   ·exact h
   ·have:k=N:=by omega
    subst this;omega
  have sd:(k+1) * (size+2)<=N * (size+2):=Nat.mul_le_mul_right _ hkN
  rw[Nat.succ_mul]at sd
  obtain⟨rest,hrest⟩:∃rest,rest=body.drop (2+k * (size+2)):=⟨_,rfl⟩
  rw[←hrest]at hq hgo hqv
  have hrl:rest.length=q.len:=by rw[hrest,List.length_drop];omega
  have hne:rest ≠ []:=λe=>by rw[e]at hrl;simp at hrl;omega
  have hfr:=hq.front (n:=2) (by omega)
  refine⟨by omega,by show 2<=q.cap;omega,by omega,(yQd hfr (by rw[List.length_take];omega)).mono ?_⟩
  rintro e wb ⟨rfl,hpb⟩
  obtain⟨ct,wA⟩:∃ct,ct=zQL (rest.take 2):=⟨_,rfl⟩
  rw[←wA]
  refine⟨_,rfl,zQf λwc hpc _=>?_⟩
  have hpac:=hpb.trans hpc
  have hSc:=hS.on hpac
  obtain⟨sc,sU,hNc⟩:=hSc.ex
  have zG:=hq.pu hpac
  rw[zQa (n:=zX0 t.fields+2) (by omega) (by omega)]
  have tN:(zX0 t.fields+2).toNat=size+2:=by omega
  rw[tN]
  have hsub:=zG.sub (lo:=2) (hi:=size+2) (by omega) (by omega)
  rw[show size+2 - 2=size by omega]at hsub
  have hstep:=yQy (t:=t) (size:=size) (recs:=recs) (rest:=rest) hne
  rw[←wA,hgo]at hstep
  have hno:yQB t ((rest.drop 2).take size)=none∨ct<1∨recs.length+1<ct∨300<ct->zQO t body=none:=λhx=>by
   have:goC t size t.recs (body.drop 2)=none:=by
    rw[hstep]
    cases hr:yQB t ((rest.drop 2).take size)with
    | none=>rfl
    | some x=>exact if_pos (hx.resolve_left (by rw[hr];simp))
   rw[hG _ rfl,this];rfl
  have hdrop:rest.drop (size+2)=body.drop (2+(k+1) * (size+2)):=by rw[hrest,List.drop_drop,Nat.succ_mul];congr 1;omega
  -- behind a record
  have next:∀x w',yQB t ((rest.drop 2).take size)=some x->¬(ct<1∨recs.length+1<ct∨300<ct)->ChS w w.heap.size w1.heap.size t ht.f (if recs.length<ct then recs ++ [x]else recs.set (ct - 1) x) w'->
    zYc (xW6 w t body) J (some ⟨w.heap.size,0,none⟩) (some ⟨w1.heap.size,0,none⟩) (zX0 t.fields) (zQL (body.take 2):Nat) q [] w':=λx wz hx hg hSz=>by
   have hxv:=zYQ hR.page hR.vf hx
   unfold zYc
   rw[zQa (n:=zX0 t.fields+2) (by omega) (by omega),tN]
   refine⟨hqc,by omega,by omega,hJ _ _ hkN ⟨_,hSz,?_,λy hy=>?_,λwv hpv=>by rw[←hdrop];exact(hqv wv hpv).rest (by omega),?_⟩⟩
   ·split
    ·rw[List.length_append,List.length_singleton];omega
    ·rw[List.length_set];exact fK
   ·split at hy
    ·rcases List.mem_append.1 hy with hy|hy
     ·exact hval y hy
     ·rw[List.mem_singleton.1 hy];exact hxv
    ·rcases List.mem_or_eq_of_mem_set hy with hy|rfl
     ·exact hval y hy
     ·exact hxv
   ·rw[←hdrop,hstep,hx]
    exact(if_neg hg).symm
  have hpg:zZZ t.page:=h.page
  refine⟨λu=>Pu wc u,Pu.refl _,_,λu hu=>cl (hu.blk sU) 0,ht.f,λu hu=>cl (hu.blk sU) 1,sc,λu hu=>cl (hu.blk sU) 2,by omega,by omega,by omega,by show 2<=size+2;omega,?_,?_⟩
  ·refine(xJ9 hpg hR.page (hSc.qf.rd (by have:=ho.n16;omega) (zXX hv).f64) hR.vf hsub (by rw[List.length_take];omega)).mono ?_
   rintro e wd ⟨hpd,g,v,ok,rfl,hrow⟩
   refine⟨g,v,ok,rfl,alB λwe hpe hbe=>zQh hbe xZs.symm rfl rfl λwf hbf hff _=>?_⟩
   have hpdf:Pu wd wf:=hpe.andNew hff λi hi=>by rw[show i=_ from hi];exact Nat.le_refl _
   have hSf:=(hSc.on hpd).on hpdf
   exact xXE (row:=(rest.drop 2).take size) hSf hbf (hrow.imp id λ⟨a,x,hx,hg,hV⟩=>⟨a,x,hx,hg,(hV.pu hpdf).low hSc.pu.size⟩) fK hno λx wz hx hg hSz hfz=>next x wz hx hg hSz
  ·refine alB λwd hpd hbd=>⟨hpd,(xJ9 hpg hR.page ((hSc.qf.pu hpd).rd (by have:=ho.n16;omega) (zXX hv).f64) hR.vf (hsub.pu hpd) (by rw[List.length_take];omega)).mono ?_⟩
   rintro e we ⟨hpe,g,v,ok,rfl,hrow⟩
   refine⟨g,v,ok,rfl,zQh (hpe.blk hbd) xZs.symm rfl rfl λwf hbf hff _=>?_⟩
   have hpdf:Pu wc wf:=(hpd.trans hpe).andNew hff λi hi=>by rw[show i=_ from hi];exact Nat.le_refl _
   have hSf:=hSc.on hpdf
   have zd:=(hSc.pu.trans hpd).size
   refine xXE (row:=(rest.drop 2).take size) hSf hbf (hrow.imp id λ⟨a,x,hx,hg,hV⟩=>⟨a,x,hx,hg,(hV.fr hff λb hb e=>?_).low zd⟩) fK hno λx wz hx hg hSz hfz=>next x wz hx hg hSz
   have h1:=hV.2 b hb
   have h2:=zQz hbd
   have e:b=wc.heap.size:=e
   omega
 ·have d:=zQd d
  have hkN:k=N:=by
   rcases Nat.lt_or_ge k N with h|h
   ·have sd:(k+1) * (size+2)<=N * (size+2):=Nat.mul_le_mul_right _ h
    rw[Nat.succ_mul]at sd
    omega
   ·omega
  subst hkN
  rw[List.drop_eq_nil_of_le (by omega),yQb]at hgo
  have hch:=hG _ rfl
  rw[←hgo]at hch
  obtain⟨sc,sU,hNc⟩:=hS.ex
  have hscl:=hNc.len
  refine zQf λwb hpb _=>?_
  have hSb:=hS.on hpb
  refine⟨λu=>∃c,u.heap[w.heap.size]?=some (.cells #[.int .i64 t.page,slV ht.f,slV sc] 35)/\c=(),⟨(),hpb.blk sU,rfl⟩,_,λu ⟨_,hu,_⟩=>cl hu 0,ht.f,λu ⟨_,hu,_⟩=>cl hu 1,sc,λu ⟨_,hu,_⟩=>cl hu 2,sc,λu ⟨_,hu,_⟩=>cl hu 2,?_⟩
  refine zQh hSb.b4 zWx.symm rfl rfl λwz hbz hfz _=>⟨⟨(),hfz.blk (hpb.blk sU) (show ¬w.heap.size=w1.heap.size by omega),rfl⟩,_,cl hbz 0,ht.f,cl hbz 1,sc,cl hbz 2,hSb.pu.andNew hfz λi hi=>by rw[show i=_ from hi];omega,_,ht.f,sc,_,rfl,?_⟩
  by_cases hn:recs.length=zQL (body.take 2)
  ·right
   refine⟨by rw[show((sc.len:Nat):Int)=((recs.length:Nat):Int)by omega,hn];simp,{ t with recs:=recs },by rw[hch];exact if_pos hn,rfl,⟨hSb.qf.fr hfz λk hk e=>hSb.qf.1.other hSb.b4 (by decide) (by rw[←show k=_ from e];exact hk),(hNc.pu hpb).other hfz hSb.b4 (by decide) (by decide)⟩⟩
  ·left
   refine⟨?_,by rw[hch];exact if_neg hn⟩
   rw[show((sc.len:Nat):Int)=((recs.length:Nat):Int)by omega]
   have:¬((recs.length:Nat):Int)=((zQL (body.take 2):Nat):Int):=by omega
   simpa using this
end Go.Proofs.YtaeecpjhfmcliaaGreatDoor
/- The log: what files tell, as the program finds it; what a recovery writes. No condition but those stated. -/
namespace Go.Proofs.YtaeecpjhfmcliaaGreatDoor
open Go.Sh Go.RowKit Tryz
variable {w w' : World}
def TabR(w:World)(F:Fls):Rt:=λe w'=>Pu w w'/\∃(p:Int) (f r:SV) (n:Int) (a b:Bool),e=.returned (.tuple #[.agg #[.int .i64 p,slV f,slV r],.int .i64 n,.bool a,.bool b])/\n=(F.2.length:Int) - ((zQW F).2.1.length:Int)/\a=(zQW F).2.2/\
 ((b=false/\(zQW F).1=none)∨b=true/\∃t,(zQW F).1=some t/\p=t.page/\zWe w w' t f r)
structure xQL(w0:World)(r2 r6:Nat)(cur:Option Tbl)(is:Bool)(w:World):Prop where
 ex:∃(p:Int) (f r:SV),w.heap[r6]?=some (.cells #[.int .i64 p,slV f,slV r] 35)/\((is=false/\cur=none)∨is=true/\∃t,cur=some t/\zQi t=0/\p=t.page/\zWe w0 w t f r)
 b2:w.heap[r2]?=some (.cells #[.int .i64 0,.slice none 0 0,.slice none 0 0] 35)
 pu:Pu w0 w
 z2:w0.heap.size<=r2
 z6:w0.heap.size<=r6
 ne:r2 ≠ r6
theorem zWe.other {w0:World} {t:Tbl} {f r:SV} {b:Nat} {c:Array Value} (h:zWe w0 w t f r) (hf:Fr (·=b) w w') (hb:w.heap[b]?=some (.cells c 35)):zWe w0 w' t f r:=
 ⟨h.fs.fr hf λk hk e=>h.fs.1.other hb (by decide) (by rw[←show k=b from e];exact hk),h.rs.other hf hb (by decide) (by decide)⟩
theorem xQL.on{w0:World}{r2 r6:Nat}{cur:Option Tbl}{is:Bool}(h:xQL w0 r2 r6 cur is w)(hp:Pu w w'):xQL w0 r2 r6 cur is w':=by
 obtain⟨p,f,r,h1,h2⟩:=h.ex
 exact⟨⟨p,f,r,hp.blk h1,h2.imp id λ⟨a,t,b,c,d,e⟩=>⟨a,t,b,c,d,e.pu hp⟩⟩,hp.blk h.b2,h.pu.trans hp,h.z2,h.z6,h.ne⟩
theorem xQL.put {w0:World} {r2 r6:Nat} {cur cur':Option Tbl} {is is':Bool} (h:xQL w0 r2 r6 cur is w) {p:Int} {f r:SV} (hx:(is'=false/\cur'=none)∨is'=true/\∃t,cur'=some t/\zQi t=0/\p=t.page/\zWe w0 w t f r) {K:World->Prop}
  (hK:∀w',xQL w0 r2 r6 cur' is' w'->K w'):stA prog 35 (⟨r6,0,none⟩:Addr) #[.int .i64 p,slV f,slV r] w K:=by
 obtain⟨p0,f0,r0,h1,_⟩:=h.ex
 refine zQh h1 zWx.symm rfl rfl λw2 aN fq _=>hK w2 ⟨⟨p,f,r,aN,hx.imp id λ⟨a,t,b,c,d,e⟩=>⟨a,t,b,c,d,e.other fq h1⟩⟩,fq.blk h.b2 h.ne,h.pu.andNew fq λi hi=>by rw[show i=_ from hi];exact h.z6,h.z2,h.z6,h.ne⟩
theorem yZs{s q0 q1:SV}{F:Fls}(h:zXx w s q0 q1 F)(hF:F.1.length<=900000000/\F.2.length<=900000000):Calls prog 47 #[slV s] w (TabR w F):=by
 have hl:=h.len
 obtain⟨a,ha,c0,c1⟩:=h.ex
 refine yY2 _ w _ (alB λw1 ax aE=>⟨a,ha,by omega,by omega,q0,ax.cell c0,(yZE (h.b0.pu ax) (by omega)).mono ?_⟩)
 rintro e w2 ⟨t0,f0,r0,cd,rfl,hO,hNi,ar,hRO⟩
 have aM:=ax.trans ar
 have me:w.heap.size<w1.heap.size:=zQz aE
 have z1:=ax.size
 refine⟨_,f0,r0,_,rfl,alB λw3 aA bo=>zQh bo zWx.symm rfl rfl λw4 cA iv _=>?_⟩
 have eI:Pu w2 w4:=aA.andNew iv λi hi=>by rw[show i=_ from hi];exact Nat.le_refl _
 have cW:=aM.trans eI
 have z2:=ar.size
 have first:∀{wz:World},Pu w2 wz->(((cd == 0)=false/\zXE F.1=none)∨(cd == 0)=true/\∃t,zXE F.1=some t/\zQi t=0/\t0.page=t.page/\zWe w wz t f0 r0):=λhpz=>by
  rcases zJL hRO with⟨rfl,h1⟩|⟨rfl,h1,_⟩
  ·exact .inr ⟨rfl,t0,h1,(zXl h1).1,rfl,(hO.pu hpz).low z1⟩
  ·exact .inl ⟨rfl,h1⟩
 have S0:xQL w w.heap.size w2.heap.size (zXE F.1) (cd == 0) w4:=⟨⟨_,f0,r0,cA,first eI⟩,eI.blk (ar.blk aE),cW,Nat.le_refl _,by omega,by omega⟩
 refine⟨a,ha,by omega,by omega,q1,cW.cell c1,?_⟩
 have hq1l:=h.b1.len
 refine yZ5 (λt w'=>∃cur rest,xQL w w.heap.size w2.heap.size cur t.1 w'/\(∀wv,Pu w wv->ByV wv t.2.2 rest)/\rest.length<=900000000/\zWc cur t.2.1 rest=zQW F) (λt _=>t.2.2.len)
  ⟨zXE F.1,F.2,S0,λwv hv=>h.b1.pu hv,hF.2,rfl⟩ ?_
 rintro J ⟨is,anew,q⟩ wa ⟨cur,rest,hS,hq,hrl,hG⟩ hJ
 dsimp only at hS hq hG
 have hqa:=hq wa hS.pu
 have hqal:=hqa.len
 refine(next_c hqa (by omega)).mono ?_
 rintro e wb ⟨hpb,k,p1,p2,b,rfl,hN⟩
 have hSb:=hS.on hpb
 refine⟨k,p1,p2,b,rfl,?_⟩
 rcases hN with⟨rfl,hnone⟩|⟨rfl,kk,body,more,hsome,rfl,hby⟩
 ·refine Br.of (λ_=>?_) (λc=>by cases c)
  rw[zZW hnone]at hG
  refine zQf λwc hpc _=>?_
  have hSc:=hSb.on hpc
  obtain⟨p,f,r,g1,g2⟩:=hSc.ex
  have vF:=hSc.b2
  have cc1:=(hSc.pu).cell c1
  refine⟨λu=>u.heap[w2.heap.size]?=some (.cells #[.int .i64 p,slV f,slV r] 35)/\u.cell? (a.add 1)=some (slV q1),⟨g1,cc1⟩,p,λu hu=>cl hu.1 0,f,λu hu=>cl hu.1 1,r,λu hu=>cl hu.1 2,a,ha,by omega,by omega,q1,λu hu=>hu.2,?_⟩
  refine zQh vF zWx.symm rfl rfl λwd hbd hfd _=>?_
  have hpd:Pu w wd:=hSc.pu.andNew hfd λi hi=>by rw[show i=_ from hi];exact Nat.le_refl _
  refine⟨⟨hfd.blk g1 (Ne.symm hSc.ne),hpd.cell c1⟩,p,cl hbd 0,f,cl hbd 1,r,cl hbd 2,hpd,p,f,r,_,anew,is,rfl,?_,by rw[←hG],?_⟩
  ·show IntKind.i64.wrap (((q1.len:Nat):Int) - ((q.len:Nat):Int))=_
   rw[←hG,zQa (by omega) (by omega)];dsimp only;omega
  ·rcases g2 with⟨g,e⟩|⟨g,t,e,_,ep,hO⟩
   ·exact .inl ⟨g,by rw[←hG];exact e⟩
   ·exact .inr ⟨g,t,by rw[←hG];exact e,ep,hO.other hfd vF⟩
 ·refine Br.of (λc=>by cases c) (λ_=>?_)
  rw[zJ5 hsome]at hG
  have hless:=yQw hsome
  have nt:∀wv,Pu w wv->ByV wv p2 more:=λwv hv=>(hby wv (hq wv hv)).2
  have hp2l:=(nt wb hSb.pu).len
  have se:=(hby wb (hq wb hSb.pu)).1
  have hbodyl:body.length<=1000000000:=by
   have h1:=se.len
   unfold zZm at hsome
   split at hsome
   ·cases hsome
   split at hsome
   ·cases hsome
   split at hsome
   ·cases hsome
   simp only[Option.some.injEq,Prod.mk.injEq]at hsome
   rw[←hsome.2.1,List.length_take,List.length_drop]
   omega
  have go:∀{is':Bool} {cur':Option Tbl} {a':Bool} {wz:World},xQL w w.heap.size w2.heap.size cur' is' wz->zK9 cur anew kk body=(cur',a')->J (is',a',p2) wz:=λ{is' cur' a' wz} hSz hst=>by
   refine hJ _ _ ⟨cur',more,hSz,nt,by omega,?_⟩ (by show p2.len<q.len;omega)
   rw[hst]at hG;exact hG
  refine Br.of (λc=>?_) (λc=>?_)
  ·have c:kk=119:=by
    have:((kk.toNat:Nat):Int)=119:=by simpa using c
    exact UInt8.toNat_inj.1 (show kk.toNat=119 by omega)
   subst c
   refine(yZE se hbodyl).mono ?_
   rintro e wc ⟨t1,f1,r1,cd1,rfl,hO1,hNi1,hpc,hRO1⟩
   refine⟨_,f1,r1,_,rfl,?_⟩
   refine(hSb.on hpc).put (cur':=zXE body) (is':=cd1 == 0) ?_ λwd hSd=>go hSd (by unfold zK9;rw[if_pos rfl])
   rcases zJL hRO1 with⟨rfl,h1⟩|⟨rfl,h1,_⟩
   ·exact .inr ⟨rfl,t1,h1,(zXl h1).1,rfl,hO1.low hSb.pu.size⟩
   ·exact .inl ⟨rfl,h1⟩
  ·have c:kk ≠ 119:=λe=>by rw[e]at c;exact absurd c (by decide)
   refine Br.of (λc1=>?_) (λc1=>?_)
   ·have c1:kk ≠ 99:=λe=>by rw[e]at c1;exact absurd c1 (by decide)
    obtain⟨p,f,r,g1,_⟩:=hSb.ex
    exact go (is':=false) (cur':=none) ⟨⟨p,f,r,g1,.inl ⟨rfl,rfl⟩⟩,hSb.b2,hSb.pu,hSb.z2,hSb.z6,hSb.ne⟩ (by unfold zK9;rw[if_neg c,if_pos c1])
   ·have c1:kk=99:=by
     have:((kk.toNat:Nat):Int)=99:=by simpa using c1
     exact UInt8.toNat_inj.1 (show kk.toNat=99 by omega)
    subst c1
    have hst:zK9 cur anew 99 body=(cur.bind λt=>zQO t body,anew):=by unfold zK9;rw[if_neg c,if_neg (by simp)]
    obtain⟨p,f,r,g1,g2⟩:=hSb.ex
    refine Br.of (λc2=>?_) (λc2=>?_)
    ·rcases g2 with⟨g,_⟩|⟨_,t,rfl,hv,rfl,hO⟩
     ·rw[g]at c2;cases c2
     refine⟨_,cl g1 0,f,cl g1 1,r,cl g1 2,(yYP (hO.rd (zXX hv)) hv se hbodyl).mono ?_⟩
     rintro e wc ⟨hpc,pp,x1,x2,bb,rfl,hC⟩
     refine⟨pp,x1,x2,bb,rfl,?_⟩
     refine(hSb.on hpc).put (cur':=zQO t body) (is':=bb) ?_ λwd hSd=>go hSd hst
     rcases hC with⟨h1,h2⟩|⟨h1,u,h2,h3,h4⟩
     ·exact .inl ⟨h1,h2⟩
     ·exact .inr ⟨h1,u,h2,zKq hv h2,h3,h4.low hSb.pu.size⟩
    ·rcases g2 with⟨_,g⟩|⟨g,_⟩
     ·refine go hSb ?_
      rw[hst,g];rfl
     ·rw[g]at c2;cases c2
end Go.Proofs.YtaeecpjhfmcliaaGreatDoor
/- The log: a store is entered and left; its parts are written, one by one. No condition but those stated. -/
namespace Go.Proofs.YtaeecpjhfmcliaaGreatDoor
open Go.Sh Go.RowKit Tryz
variable {w w' : World} {X : Nat -> Prop} {L L' : SL} {d d' : Dat} {mu : Int}
theorem disable(w:World):(callFunc 169 #[]).run prog w=.ok (.value (.tuple #[])) w:=run_call_mark0 Tryz.func169 (by kernel_rfl) (by kernel_rfl) (by kernel_rfl) .disable (by kernel_rfl) w
theorem enable(w:World):(callFunc 171 #[]).run prog w=.ok (.value (.tuple #[])) w:=run_call_mark0 Tryz.func171 (by kernel_rfl) (by kernel_rfl) (by kernel_rfl) .enable (by kernel_rfl) w
theorem acquire(a:Addr)(w:World):(callFunc 172 #[.pointer (some a)]).run prog w=.ok (.value (.tuple #[])) w:=run_call_marked Tryz.func172 (by kernel_rfl) (by kernel_rfl) (by kernel_rfl) .acquire (by kernel_rfl) a w
theorem xQv(a:Addr)(w:World):(callFunc 174 #[.pointer (some a)]).run prog w=.ok (.value (.tuple #[])) w:=run_call_marked Tryz.func174 (by kernel_rfl) (by kernel_rfl) (by kernel_rfl) .releaseMerge (by kernel_rfl) a w
theorem mu1:prog.underlying 197=some (.pointer 103):=by kernel_rfl
theorem mu2:prog.underlying 201=some .unsafePointer:=by kernel_rfl
theorem mu3:(prog.info? 103).map (λi=>decide (i.size=0))=some false:=by kernel_rfl
theorem muLock {a:Addr} {w:World} (hc:w.cell? a=some (.int .i32 0)) (hz:w.frozen? a=false) :
  Calls prog 95 #[.pointer (some a)] w λe w'=>e=.returned (.tuple #[])/\w'=w.setCell a (.int .i32 1):=by
 refine yYd _ w _ ?_
 refine Calls.mono (R:=λe w'=>e=.returned (.tuple #[])/\w'=w.setCell a (.int .i32 1)) ?_ λe w' h=>⟨h.1,rfl,h.2⟩
 refine yKT _ w _ ?_
 refine⟨w,disable w,true,w.setCell a (.int .i32 1),run_call_cas_hit Tryz.func170 (by kernel_rfl) (by kernel_rfl) (by kernel_rfl) .i32 (by kernel_rfl) hc hz,?_⟩
 have hc':(w.setCell a (.int .i32 1)).cell? a=some (.int .i32 1):=World.cell?_setCell_same _ _ _ hc
 exact⟨_,enable _,_,_,run_convert_to_unsafe mu1 mu2 mu3 hc',_,acquire a _,rfl,rfl⟩
theorem xQ6 {a:Addr} {w:World} (hc:w.cell? a=some (.int .i32 1)) (hz:w.frozen? a=false) (u:FrameMode) :
  CallsD prog 96 #[.pointer (some a)] u w λe u' w'=>u'=u/\e=.returned (.tuple #[])/\w'=w.setCell a (.int .i32 0):=by
 refine yKg _ w (λe w'=>e=.returned (.tuple #[])/\w'=w.setCell a (.int .i32 0)) u ?_
 refine Calls.mono (R:=λe w'=>e=.returned (.tuple #[])/\w'=w.setCell a (.int .i32 0)) ?_ λe w' h=>⟨h.1,rfl,h.2⟩
 refine yJK _ w _ ?_
 refine⟨1,hc,_,_,run_convert_to_unsafe mu1 mu2 mu3 hc,_,xQv a _,_,disable _,0,w.setCell a (.int .i32 0),
  run_call_add Tryz.func175 (by kernel_rfl) (by kernel_rfl) (by kernel_rfl) .i32 (by kernel_rfl) hc hz (by simp[go_sem];rfl),w.setCell a (.int .i32 0),enable _,rfl,rfl⟩
theorem zQS.reS (h:zQS X w L d mu) (hf:Fr (·=L.S) w w') {mu':Int} (hst:w'.heap[L.S]?=some (.cells (zJr mu' L) 108)):zQS X w' L d mu' where
 st:=hst
 lv:=h.lv.fr hf λb hb e=>h.lv.other h.st (by decide) (by rw[←show b=L.S from e];exact hb)
 dn:=h.dn.fr hf λb hb e=>h.dn.other h.st (by decide) (by rw[←show b=L.S from e];exact hb)
 wr:=h.wr.fr hf λb hb e=>h.wr.other h.st (by decide) (by rw[←show b=L.S from e];exact hb)
 pt:=h.pt.fr hf λb hb e=>h.pt.other h.st (by decide) (by rw[←show b=L.S from e];exact hb)
 now:=h.now.fr hf λb hb e=>h.now.other h.st (by decide) (by decide) (by rw[←show b=L.S from e];exact hb)
 ll:=h.ll
 dl:=h.dl
 wl:=h.wl
 lvs:=λi x t hx ht=>(h.lvs i x t hx ht).fr hf λb hb e=>(h.lvs i x t hx ht).other h.st (by decide) (by decide) (by rw[←show b=L.S from e];exact hb)
 ld:=h.ld
 dj:=h.dj
 djl:=h.djl
 xl:=λb hb=>Nat.lt_of_lt_of_le (h.xl b hb) hf.size
 kp:=λw2 h2=>h.kp w2 ((hf.mono λb hb _=>.inl (.inl hb)).trans h2 λb hb _=>hb)
theorem zQS.setMu(h:zQS X w L d mu)(m:Int):zQS X (w.setCell ⟨L.S,0,none⟩ (.int .i32 m)) L d m:=h.reS (Fr.cell w _ _ _) (by rw[zJe h.st 0 (.int .i32 m)];rfl)
def yVW(L:SL):Value:=.func (.func 96) #[L.ptr] #[]
def zZ9(L:SL):Deferred:={ target:=.fn (.func 96) #[],args:=#[L.ptr] }
theorem xWq(h:zQS X w L d 0):Calls prog 55 #[L.ptr] w λe w'=>e=.returned (.tuple #[yVW L,.int .i64 0])/\zQS X w' L d 1/\Fr (·=L.S) w w'/\w'.heap.size=w.heap.size:=by
 refine yYn _ w _ ⟨false,w,zKA vu24 _ _ _ w,?_⟩
 show Calls prog 95 #[.pointer (some ⟨L.S,0,none⟩)] w _
 refine Calls.mono (muLock (by rw[h.cell];rfl) (zW0 h.st 0)) ?_
 rintro e w1 ⟨rfl,gT⟩
 refine⟨rfl,rfl,?_,?_,?_⟩
 ·rw[gT];exact h.setMu 1
 ·rw[gT];exact Fr.cell w _ _ _
 ·rw[gT];simp
theorem zYx (h:zQS X w L d 1) {K:World->Prop} (hK:K (w.setCell ⟨L.S,0,none⟩ (.int .i32 0))):zQc prog [zZ9 L] w K:=by
 show xQO prog (zZ9 L) w _
 show CallsD prog 96 #[.pointer (some ⟨L.S,0,none⟩)] .returning w _
 refine CallsD.mono (xQ6 (by rw[h.cell];rfl) (zW0 h.st 0) .returning) ?_
 rintro e u' w' ⟨rfl,rfl,rfl⟩
 exact⟨⟨_,rfl⟩,rfl,hK⟩
theorem yKd {w0:World} {L0:SL} (h:zQS X w L d 1) (hl:zZy w0 w L0 L) {K:World->Prop} (hK:∀w',zQS X w' L d 0->zZy w0 w' L0 L->Fr (·=L.S) w w'->K w'):zQc prog [zZ9 L] w K:=
 zYx h (hK _ (h.setMu 0) (hl.trans ⟨(Fr.cell w _ _ _).mono λb hb _=>.inl hb,λ_ h=>.inl h,rfl⟩) (Fr.cell w _ _ _))
theorem xXm {w0:World} (h0:zQS X w0 L d 0) (h:zQS X w L d 1) (hf:Fr (·=L.S) w0 w) {K:World->Prop} (hK:∀w',Pu w0 w'->Fr (·=L.S) w w'->K w'):zQc prog [zZ9 L] w K:=by
 refine zYx h (hK _ ?_ (Fr.cell w _ _ _))
 have fq:=hf.trans (Fr.cell w L.S 0 (.int .i32 0)) λi hi _=>hi
 refine⟨fq.os,fq.tape,fq.output,fq.size,λk hk=>?_⟩
 by_cases e:k=L.S
 ·subst e
  rw[h0.st,(h.setMu 0).st]
 ·exact fq.block k hk e
theorem zKF.keep{w0:World}{t:Tbl}{q:HT}(hq:zKF w0 w t q)(hv:zQi t=0)(ho:∀b,L.own b->b<w0.heap.size)(hx:∀b,X b->b<w0.heap.size):∀w2,Fr (λb=>L.own b∨X b) w w2->zXD w2 t q.f q.r:=λw2 h2=>
 (hq.fr h2 λb hb _ e=>e.elim (λe=>by have:=ho b e;omega) (λe=>by have:=hx b e;omega)).rd hv
theorem zQS.pushDone (h:zQS X w L d mu) {q:HT} {t:Tbl} (hp:q.page=t.page) (hq:∀w2,Fr (λb=>L.own b∨X b) w w2->zXD w2 t q.f q.r) {r:Nat} (hr:w.heap[r]?=some (.cells (yJ8 q).toArray 35)) (hro:∀b,L.own b->b ≠ r) (hn:d.σ.done.length<=1000000)
  {K:World->Prop} (hK:∀w' L',zQS X w' L' { d with σ:={ d.σ with done:=d.σ.done ++ [t] } } mu->zZy w w' L L'->L'.now=L.now->L'.lh=L.lh->K w') :
  ∃s:SV,∃w1:World,(Builtin.append_ #[106,106] 106 #[slV L.dn,.slice (some ⟨r,0,none⟩) 1 1]).run prog w=.ok (slV s) w1/\st1 ((⟨L.S,0,none⟩:Addr).add 6) (slV s) w1 K:=by
 have hl:=h.dn.len zQV (by decide)
 have hdl:=h.dl
 obtain⟨s,w1,hra,hrow,dH,hblk,hsl⟩:=zQ9 (P:=prog) (ty:=106) vu106 vi35 rfl (by decide) h.dn (A:=some ⟨r,0,none⟩) (m:=1) (c:=1) (news:=yJ8 q) rfl (λj u hu=>⟨_,rfl,by rw[cl hr];simpa using hu⟩) (λu hu=>by simp[yJ8]at hu;rcases hu with rfl|rfl|rfl <;> rfl) (by show(L.dn.len+1) * (56+1)<=_;omega)
 refine⟨s,w1,hra,?_⟩
 have hnS:L.S ∉ zQb L.dn:=h.dn.other h.st (by decide)
 have zH:=dH.blk h.st hnS
 rw[zQr,Nat.zero_add]
 refine zQw zH (by show 6<11;omega) λw2 mr aN=>?_
 have fq:Fr (·=L.S) w1 w2:=by rw[mr];exact Fr.cell w1 _ _ _
 have hf:Fr (λb=>b=L.S∨b ∈ zQb L.dn) w w2:=(dH.mono λb hb _=>.inr hb).trans fq λb hb _=>.inl hb
 have hsn:∀b ∈ zQb s,b ≠ L.S:=λb hb e=>by
  rcases hblk b hb with h1|h1
  ·exact hnS (by rw[←e];exact h1)
  ·have:=zQz h.st;omega
 have vG:zQj w2 35 3 s ((L.dh ++ [q]).flatMap yJ8):=by
  rw[List.flatMap_append,List.flatMap_singleton]
  exact hrow.fr fq λb hb e=>hsn b hb e
 have oth:∀{e:TypeId} {sz:Nat} {s':SV} {vs:List Value},zQj w e sz s' vs->e ≠ 35->e ≠ 108->zQj w2 e sz s' vs:=λhr' h1 h2=>hr'.fr hf λb hb hx=>by
  rcases hx with rfl|hx
  ·exact hr'.other h.st h2 hb
  ·exact zQq hr' h.dn h1 b hb hx
 have tabo:∀{t:Tbl} {x:HT},zJv w t x->zJv w2 t x:=λht=>ht.fr hf λb hb hx=>by
  rcases hx with rfl|hx
  ·exact ht.other h.st (by decide) (by decide) hb
  ·obtain⟨_,hd|⟨g,cur,h3,h4,_⟩⟩:=h.dn
   ·rw[hd]at hx;simp[zQb]at hx
   ·simp[zQb,h3]at hx;subst hx
    exact ht.other h4 (by decide) (by decide) hb
 have hown:∀b,SL.own { L with dn:=s,dh:=L.dh ++ [q] } b->L.own b∨w.heap.size<=b:=λb hb=>by
  rcases hb with hb|hb|hb|hb|hb|hb
  ·exact .inl (.inl hb)
  ·exact .inl (.inr (.inl hb))
  ·rcases hblk b hb with h1|h1
   ·exact .inl (.inr (.inr (.inl h1)))
   ·exact .inr h1
  ·exact .inl (.inr (.inr (.inr (.inl hb))))
  ·exact .inl (.inr (.inr (.inr (.inr (.inl hb)))))
  ·exact .inl (.inr (.inr (.inr (.inr (.inr hb)))))
 have hleft:zZy w w2 L { L with dn:=s,dh:=L.dh ++ [q] }:=⟨hf.mono λb hb _=>hb.elim .inl λhb=>.inr (.inr (.inl hb)),hown,rfl⟩
 refine hK w2 { L with dn:=s,dh:=L.dh ++ [q] } ⟨aN,h.lv.fr hf λb hb hx=>?_,vG,oth h.wr (by decide) (by decide),oth h.pt (by decide) (by decide),tabo h.now,h.ll,by simp[hdl],h.wl,λi x u hx hu=>tabo (h.lvs i x u hx hu),λb hb hx=>?_,h.dj,h.djl,λb hb=>Nat.lt_of_lt_of_le (h.xl b hb) hf.size,?_⟩ hleft rfl rfl
 ·rcases hx with rfl|hx
  ·exact h.lv.other h.st (by decide) hb
  ·exact h.ld b hb hx
 ·rcases hblk b hx with h1|h1
  ·exact h.ld b hb h1
  ·have:=h.lv.lt b hb;omega
 ·have k1:=hleft.keep (X:=X) h.kp h.xl
  have k2:=hleft.keep (X:=X) hq h.xl
  intro w3 h3
  obtain⟨a1,a2,a3,a4,a5,a6⟩:=k1 w3 h3
  refine⟨a1,a2,λi x u hx hu=>?_,a4,a5,a6⟩
  rcases Nat.lt_trichotomy i d.σ.done.length with hi|hi|hi
  ·have hx:(L.dh ++ [q])[i]?=some x:=hx
   have hu:(d.σ.done ++ [t])[i]?=some u:=hu
   rw[List.getElem?_append_left (by omega)]at hx hu
   exact a3 i x u hx hu
  ·have hx:(L.dh ++ [q])[i]?=some x:=hx
   have hu:(d.σ.done ++ [t])[i]?=some u:=hu
   rw[List.getElem?_append_right (by omega),hdl,hi,Nat.sub_self]at hx
   rw[List.getElem?_append_right (by omega),hi,Nat.sub_self]at hu
   simp at hx hu;subst hx hu
   exact⟨hp,k2 w3 h3⟩
  ·have hu:(d.σ.done ++ [t])[i]?=some u:=hu
   rw[List.getElem?_eq_none (by rw[List.length_append,List.length_singleton];omega)]at hu;cases hu
end Go.Proofs.YtaeecpjhfmcliaaGreatDoor
