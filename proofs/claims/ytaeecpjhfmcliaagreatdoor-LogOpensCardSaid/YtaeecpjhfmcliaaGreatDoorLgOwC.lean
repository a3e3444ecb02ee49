import Derived.Test.YtaeecpjhfmcliaaGreatDoorLgOwB
import Derived.Test.YtaeecpjhfmcliaaGreatDoorLgPrA
import Derived.Lib.SlBytesRow
import Derived.Lib.BufferRead
import Derived.Test.YtaeecpjhfmcliaaGreatDoorShTwentyThree
import Derived.Test.YtaeecpjhfmcliaaGreatDoorLgOwA
/- Table: the program's row of a record, walked. No condition. -/
set_option maxRecDepth 100000
set_option linter.unusedVariables false
set_option linter.unusedSimpArgs false
noncomputable section
namespace Go.Proofs.YtaeecpjhfmcliaaGreatDoor
open Go.Sh Go.RowKit Tryz
def yX1(b:Bool):UInt8:=if b then 42 else 32
def zX1(sh:Fld->Val->List UInt8)(l:List Fld)(vs:List Val):List UInt8:=(l.zip vs).flatMap λx=>zVu sh x.1 x.2
def zJm(sh:Fld->Val->List UInt8)(l:List Fld)(r:Rec):List UInt8:=[yX1 r.gone] ++ flN (zXd l) (zXi l r.v) ++ zX1 sh l r.v
theorem zKy {sh:Fld->Val->List UInt8} {l:List Fld} {vs:List Val} {k:Nat} {f:Fld} {v:Val} (h:l[k]?=some f) (h2:vs[k]?=some v):zX1 sh (l.take (k+1)) (vs.take (k+1))=zX1 sh (l.take k) (vs.take k) ++ zVu sh f v:=by
 unfold zX1
 rw[zQ8 h,zQ8 h2,List.zip_append (by
  have h1:=(List.getElem?_eq_some_iff.1 h).1
  have h3:=(List.getElem?_eq_some_iff.1 h2).1
  rw[List.length_take,List.length_take];omega),List.flatMap_append]
 simp
theorem yWZ {sh:Fld->Val->List UInt8} {f:Fld} {v:Val} (hw:0<=f.width/\f.width<=254) (hs:v.kind ≠ 0->(sh f v).length<=1000):(zVu sh f v).length<=1000:=by
 unfold zVu
 by_cases h:v.kind=0
 ·rw[if_pos h,List.length_replicate];omega
 ·rw[if_neg h];exact hs h
theorem zYu{sh:Fld->Val->List UInt8}{l:List Fld}{vs:List Val}(hw:WOk l)(hW:yJr sh l vs):∀k,k<=l.length->k<=vs.length->(zX1 sh (l.take k) (vs.take k)).length<=1000 * k
 | 0,_,_=>by simp[zX1]
 | k+1,h1,h2=>by
  obtain⟨f,hf⟩:=zQZ (show k<l.length by omega)
  obtain⟨v,hv⟩:=zQZ (show k<vs.length by omega)
  rw[zKy hf hv,List.length_append]
  have:=zYu hw hW k (by omega) (by omega)
  have:=yWZ (sh:=sh) (v:=v) (hw f (List.mem_of_getElem? hf)) (λh=>(hW k f v hf hv h).1)
  omega
theorem zZe(l:List Fld)(k:Nat):((l.take k).filter (·.null)).length<=(l.filter (·.null)).length:=((List.take_sublist k l).filter _).length_le
structure yZ7(w:World)(r3 jW b:Nat)(t l6:SV)(g:Bool)(N:Nat)(bits:List Bool)(acc:List UInt8)(w':World):Prop where
 pu:Pu w w'
 rcd:w'.heap[r3]?=some (.cells #[.bool g,.slice t.a t.len t.cap] 67)
 out:w'.heap[jW]?=some (.cells #[u8V (yX1 g)] 5)
 fl:zQe w w' l6 (flN N bits)
 bld:Lib.IsBuilderF 220 5 b b (Lib.byteCells acc) w'
 lt:b<w'.heap.size
theorem yZ7.below {w:World} {r3 jW b:Nat} {t l6:SV} {g:Bool} {N:Nat} {bits:List Bool} {acc acc':List UInt8} {w' w2:World} (h:yZ7 w r3 jW b t l6 g N bits acc w') (h3:r3<b) (mH:jW<b) (h6:∀k ∈ zQb l6,k<b) (hb:w.heap.size<=b) (hB:Below b w' w2) (hbld:Lib.IsBuilderF 220 5 b b (Lib.byteCells acc') w2):yZ7 w r3 jW b t l6 g N bits acc' w2:=
 ⟨Below.trans h.pu (hB.mono hb),by rw[hB.block _ h3];exact h.rcd,by rw[hB.block _ mH];exact h.out,h.fl.fr (xXd hB) λk hk e=>by have:=h6 k hk;have e:b<=k:=e;omega,hbld,Nat.lt_of_lt_of_le h.lt hB.size⟩
theorem row_c {w:World} {sh:Fld->Val->List UInt8} {l:List Fld} {s t:SV} {r:Rec} (h:zXF w s l) (hr:zXF w t r.v) (hl:r.v.length=l.length) (gk:l.length<=16) (hwid:WOk l) (hW:yJr sh l r.v) (hne:zX1 sh l r.v ≠ []) :
  Calls prog 158 #[.slice s.a s.len s.cap,.agg #[.bool r.gone,.slice t.a t.len t.cap]] w λe w'=>∃q:SV,e=.returned (.slice q.a q.len q.cap)/\zQe w w' q (zJm sh l r)/\Pu w w':=by
 refine yK3 _ _ _ w _ ?_
 have hsl:=h.len
 have htl:=hr.len
 have hnl:=zVn l
 have hN0:(zXd l)=((l.filter (·.null)).length+7) / 8:=rfl
 refine alB λw1 ax aE=>alB λw2 ar aN=>⟨_,cl0 (ar.blk aE),?_⟩
 have l1:w.heap.size<w1.heap.size:=zQz aE
 have l2:w1.heap.size<w2.heap.size:=zQz aN
 have aM:=ax.trans ar
 -- behind the first byte
 have main:∀{w3:World},Pu w w3->w3.heap[w.heap.size]?=some (.cells #[.bool r.gone,.slice t.a t.len t.cap] 67)->w3.heap[w1.heap.size]?=some (.cells #[u8V (yX1 r.gone)] 5)->
   Calls prog 203 #[.slice s.a s.len s.cap] w3 λe kZ=>∃gO:Int,e=.returned (.int .i64 gO)/\∃fH:SV,∃iy:World,(Instr.makeSlice 22 (.int .i64 gO) (.int .i64 gO)).run prog kZ=.ok (.slice fH.a fH.len fH.cap) iy/\
    alE (.cells #[.pointer none,.slice none 0 0] 220) iy λr7 nU=>
    yJx (λe w'=>∃q:SV,e=.returned (.slice q.a q.len q.cap)/\zQe w w' q (zJm sh l r)/\Pu w w') (some (⟨w.heap.size,0,none⟩:Addr)) ⟨(some ⟨w1.heap.size,0,none⟩),1,1⟩ fH (some (⟨r7,0,none⟩:Addr)) 0 s ((s.len:Nat):Int) 0 [] nU:=λ{w3} aA bo vg=>by
  refine(zK8 (h.pu aA)).mono ?_
  rintro e w4 ⟨rfl,aJ⟩
  obtain⟨i,i1,i2,i3,i4⟩:=info_parts yWs
  obtain⟨w5,e5,vh,aV,s5⟩:=zVm (P:=prog) (w:=w4) u37 i1 i2 i3 .i64 .i64 (zXd l) (by rw[i4];omega) (by omega)
  refine⟨_,rfl,⟨some ⟨w4.heap.size,0,none⟩,zXd l,zXd l⟩,w5,e5,alB λw6 bV gi=>?_⟩
  have l3:w1.heap.size<w3.heap.size:=zQz vg
  have z4:w3.heap.size<=w4.heap.size:=aJ.size
  have fl6:zQe w w6 ⟨some ⟨w4.heap.size,0,none⟩,zXd l,zXd l⟩ (flN (zXd l) []):=by
   refine⟨(?_:zQj w5 5 1 _ _).pu bV,λb hb=>by simp[zQb]at hb;have:=aA.size;omega⟩
   rw[xKW,List.map_replicate]
   rw[show(Value.int IntKind.u8 0).cells=#[.int .u8 0]from rfl,toList_madeCells_one,Nat.mul_one]at vh
   exact vh
  have sL:yZ7 w w.heap.size w1.heap.size w5.heap.size t ⟨some ⟨w4.heap.size,0,none⟩,zXd l,zXd l⟩ r.gone (zXd l) [] [] w6:=
   ⟨((aA.trans aJ).trans aV).trans bV,((aJ.trans aV).trans bV).blk bo,((aJ.trans aV).trans bV).blk vg,fl6,xWv gi,zQz gi⟩
  have c3:w.heap.size<w5.heap.size:=by omega
  have c12:w1.heap.size<w5.heap.size:=by omega
  have c6:∀k ∈ zQb (⟨some ⟨w4.heap.size,0,none⟩,zXd l,zXd l⟩:SV),k<w5.heap.size:=λk hk=>by simp[zQb]at hk;omega
  have oJ:w.heap.size<=w5.heap.size:=by omega
  generalize rR:(⟨some ⟨w4.heap.size,0,none⟩,zXd l,zXd l⟩:SV)=l6 at *
  have hl6len:l6.len=zXd l:=by rw[←rR]
  refine zQ0 l.length (λk u w'=>u.2=(k:Int)/\u.1=((zXi (l.take k) (r.v.take k)).length:Nat)/\yZ7 w w.heap.size w1.heap.size w5.heap.size t l6 r.gone (zXd l) (zXi (l.take k) (r.v.take k)) (zX1 sh (l.take k) (r.v.take k)) w') ⟨rfl,rfl,sL⟩ ?_
  rintro k J ⟨u1,u2⟩ w7 hk ⟨rS,hu1,st⟩ hJ
  obtain rfl:u2=(k:Int):=rS
  obtain rfl:u1=((zXi (l.take k) (r.v.take k)).length:Nat):=hu1
  have hcl:=zYu hwid hW k hk (by omega)
  dsimp only
  refine Br.of (λd=>?_) (λd=>?_)
  ·have aG:k<l.length:=by have:=zQk d;omega
   obtain⟨f,hf⟩:=zQZ aG
   obtain⟨v,hv⟩:=zQZ (show k<r.v.length by omega)
   obtain⟨a,ha,hi,_,_,_,k0,k1,k2,k3⟩:=zJw (h.pu st.pu) hf
   refine⟨a,ha,by omega,by omega,_,k0,_,k1,_,k2,_,k3,zYt rfl s23.symm rfl λw8 bM hs8 lZ=>?_⟩
   obtain⟨m,hm,hmi,_,_,v0,v1,v2⟩:=xX0 (hr.pu (st.pu.trans bM)) hv
   refine⟨t,cl (bM.blk st.rcd) 1,m,hm,by omega,by omega,_,v0,_,v1,_,v2,zYt rfl s25.symm rfl λw9 eH hs9 kH=>?_⟩
   have oo:=eH.blk lZ
   have ls:=bM.trans eH
   have hlt:=st.lt
   have z79:=ls.size
   have up:∀{w':World} {B:Nat->Prop} {bits:List Bool},Fr B w7 w'->(∀i,B i->i<w5.heap.size)->(¬B w.heap.size)->(¬B w1.heap.size)->(∀i,B i->w.heap.size<=i)->zQe w w' l6 (flN (zXd l) bits)->yZ7 w w.heap.size w1.heap.size w5.heap.size t l6 r.gone (zXd l) bits (zX1 sh (l.take k) (r.v.take k)) w':=λ{w' B bits} hf q1 q2 q3 q4 q5=>
    ⟨st.pu.andNew hf q4,hf.blk st.rcd q2,hf.blk st.out q3,q5,yZL st.bld hf λi hi hB=>by have:=q1 i hB;omega,Nat.lt_of_lt_of_le hlt hf.size⟩
   -- the end of the round
   have rest:∀{wz:World} {bits:List Bool},yZ7 w w.heap.size w1.heap.size w5.heap.size t l6 r.gone (zXd l) bits (zX1 sh (l.take k) (r.v.take k)) wz->wz.heap[w7.heap.size]?=some (.cells #[.string f.name,.int .i64 f.kind,.int .i64 f.width,.bool f.null] 129)->wz.heap[w8.heap.size]?=some (.cells #[.int .i64 v.kind,.int .i64 v.n,.string v.s] 73)->
     bits=zXi (l.take (k+1)) (r.v.take (k+1))->∀{nb:Int},nb=(bits.length:Nat)->yZc J w7.heap.size w8.heap.size (some ⟨w5.heap.size,0,none⟩) nb (k:Int) wz:=λ{wz bits} q1 q2 q3 q4 {nb} q5=>by
    refine yWM (sh:=sh) (by have:=hwid f (List.mem_of_getElem? hf);omega) (hW k f v hf hv) q2 q3 q1.bld q1.lt (by omega) λw' hb' hbl=>?_
    rw[zQa (by omega) (by omega)]
    refine hJ _ _ aG ⟨by dsimp only;omega,by rw[q5,q4],?_⟩
    rw[←q4,zKy hf hv]
    exact q1.below c3 c12 c6 oJ hbl hb'
   have hns:=zYG hf hv
   refine⟨_,cl oo 3,Br.of (λd1=>⟨_,cl0 kH,Br.of (λd2=>?_) (λd2=>?_)⟩) (λd1=>?_)⟩
   ·
    rw[if_pos d1,decide_eq_true (zQC d2)]at hns
    generalize hbits:zXi (l.take k) (r.v.take k)=bits at *
    have hm1:bits.length+1<=(l.filter (·.null)).length:=by
     have h1:=zWa (l.take (k+1)) (r.v.take (k+1))
     have h2:=zZe l (k+1)
     rw[hns]at h1;simp only[List.length_append,List.length_singleton]at h1;omega
    obtain⟨q,ρ,hqr,hρ⟩:∃q ρ,bits.length=8 * q+ρ/\ρ<8:=⟨bits.length / 8,bits.length % 8,by omega,by omega⟩
    have hqN:q<zXd l:=by omega
    have e1:((bits.length:Nat):Int).tdiv 8=(q:Int):=by rw[Int.tdiv_eq_ediv_of_nonneg (by omega)];omega
    have e2:((bits.length:Nat):Int).tmod 8=(ρ:Int):=by rw[Int.tmod_eq_emod_of_nonneg (by omega)];omega
    rw[e1,e2,zQa (n:=(q:Int)) (by omega) (by omega),zQa (n:=((bits.length:Nat):Int)+1) (by have:=List.length_filter_le (·.null) l;omega) (by have:=List.length_filter_le (·.null) l;omega)]
    refine zQf λaU iq hh10=>?_
    have vi:zQe w aU l6 (flN (zXd l) bits):=(st.fl.pu ls).pu iq
    have hbl:=xQa hqr hρ
    have hpow:2 ^ ρ<=128:=by
     rcases(by omega:ρ=0∨ρ=1∨ρ=2∨ρ=3∨ρ=4∨ρ=5∨ρ=6∨ρ=7)with rfl|rfl|rfl|rfl|rfl|rfl|rfl|rfl <;> decide
    obtain⟨a6,y7,hc6⟩:=vi.cell (xXF hqN)
    have ebyte:u8V (UInt8.ofNat (zXT bits q))=.int .u8 ((zXT bits q:Nat):Int):=by
     unfold u8V;congr 2;simp;omega
    rw[ebyte]at hc6
    refine⟨rfl,by omega,a6,y7,by omega,by omega,_,by rw[zZc,Nat.mul_one];exact hc6,rfl,by omega,by omega,?_⟩
    rw[zZc,zZc,Nat.mul_one,or_bit ρ hρ _ hbl,zZU]
    have ev:zZj ((zXT bits q+2 ^ ρ:Nat):Int)=UInt8.ofNat (zXT bits q+2 ^ ρ):=by rw[zYe];congr 1;omega
    rw[ev]
    obtain⟨a7,ha7,hst⟩:=vi.1.st1 (j:=q) (by simp[zW6];exact hqN) (u8V (UInt8.ofNat (zXT bits q+2 ^ ρ))) (K:=λbC=>yZc J w7.heap.size w8.heap.size (some ⟨w5.heap.size,0,none⟩) (((bits.length:Nat):Int)+1) (k:Int) bC) λaT nn jT hs11=>by
     rw[←List.map_set,←xQY hqr hρ hqN]at nn
     have hfa:Fr (· ∈ zQb l6) w7 aT:=(Fr.pu (ls.trans iq):Fr (· ∈ zQb l6) w7 aU).trans jT λ_ h _=>h
     refine rest (up hfa c6 (λhc=>?_) (λhc=>?_) (λi hi=>st.fl.2 i hi) ⟨nn,st.fl.2⟩) (jT.blk (iq.blk oo) λhc=>by have:=c6 _ hc;omega) (jT.blk (iq.blk kH) λhc=>by have:=c6 _ hc;have:=bM.size;omega) hns.symm (by simp)
     ·rw[←rR]at hc;simp[zQb]at hc;omega
     ·rw[←rR]at hc;simp[zQb]at hc;omega
    exact⟨a7,ha7,by omega,by omega,hst⟩
   ·rw[if_pos d1,decide_eq_false (zQm d2)]at hns
    rw[zQa (n:=((zXi (l.take k) (r.v.take k)).length:Int)+1) (by have:=zWa (l.take k) (r.v.take k);have:=zZe l k;have:=List.length_filter_le (·.null) l;omega) (by have:=zWa (l.take k) (r.v.take k);have:=zZe l k;have:=List.length_filter_le (·.null) l;omega)]
    refine rest (bits:=zXi (l.take k) (r.v.take k) ++ [false]) (up (B:=λ_=>False) (Fr.pu ls) (λ_ h=>h.elim) (λh=>h) (λh=>h) (λ_ h=>h.elim) ?_) oo kH hns.symm (by simp)
    rw[yYT];exact st.fl.pu ls
   ·rw[if_neg (by rw[d1];simp),List.append_nil]at hns
    exact rest (up (B:=λ_=>False) (Fr.pu ls) (λ_ h=>h.elim) (λh=>h) (λh=>h) (λ_ h=>h.elim) (st.fl.pu ls)) oo kH hns.symm rfl
  ·have aG:k=l.length:=by have:=zQd d;omega
   subst aG
   rw[List.take_length,List.take_of_length_le (show r.v.length<=l.length by omega)]at *
   have hlt:=st.lt
   have out:zQe w w7 ⟨some ⟨w1.heap.size,0,none⟩,1,1⟩ [yX1 r.gone]:=zQe.box (l:=[yX1 r.gone]) st.out (by omega) (by simp)
   obtain⟨nV,w8,e8,r8,f8,y8⟩:=out.app' st.pu.size (m:=l6) (news:=flN (zXd l) (zXi l r.v)) st.fl.len (λj b hj=>st.fl.cell hj) (by simp only[List.length_singleton,zW6];omega)
   have vj:=yZL st.bld f8 λi hi hB=>by simp[zQb]at hB;omega
   have z8:=f8.size
   have bM:Pu w w8:=st.pu.andNew f8 λi hi=>out.2 i hi
   obtain⟨g,cap,hbg,hcell,hgl,hcall⟩:=zJ9 vj hne
   have hg7:g<w7.heap.size:=by
    obtain⟨g',cap',_,hcell',hgl',_⟩:=zJ9 st.bld hne
    have e1:w8.heap[w5.heap.size]?=w7.heap[w5.heap.size]?:=f8.block _ hlt (by simp[zQb];omega)
    have e2:w8.cell? ⟨w5.heap.size,1,none⟩=w7.cell? ⟨w5.heap.size,1,none⟩:=World.cell?_of_block e1
    rw[e2,hcell']at hcell
    simp only[Option.some.injEq,Value.slice.injEq,Addr.mk.injEq]at hcell
    omega
   refine⟨nV,w8,e8,hcall.mono ?_⟩
   rintro e w9 ⟨rfl,hfg⟩
   have r9:zQe w w9 nV ([yX1 r.gone] ++ flN (zXd l) (zXi l r.v)):=r8.fr hfg λb hb e=>by
    have e:b=g:=e
    rcases y8 b hb with h1|h1
    ·simp[zQb]at h1;omega
    ·omega
   have hbl:Fr (w5.heap.size<=·) w8 w9:=⟨hfg.os,hfg.tape,hfg.output,hfg.size,λi hi hn=>hfg.block i hi (λe=>hn (by have e:i=g:=e;omega))⟩
   have eH:Pu w w9:=bM.andNew hbl λi hi=>Nat.le_trans oJ hi
   obtain⟨q,aU,wq,cC,f10⟩:=r9.str eH.size (zX1 sh l r.v) (by simp only[List.length_append,List.length_singleton,zW6];omega)
   exact⟨_,rfl,q,aU,wq,q,rfl,cC,eH.andNew f10 λi hi=>r9.2 i hi⟩
 refine Br.of (λd=>⟨_,rfl,by omega,by omega,?_⟩) (λd=>main aM (ar.blk aE) (by rw[d];exact aN))
 show st1 ((⟨w1.heap.size,0,none⟩:Addr).add 0) _ w2 _
 rw[zQr]
 refine zQw aN (by decide) λw3 oq bo=>main ?_ ?_ (by rw[d];exact bo)
 ·exact aM.andNew (B:=(·=w1.heap.size)) (by rw[oq];exact Fr.cell w2 _ 0 _) λi hi=>by omega
 ·exact(by rw[oq];exact Fr.cell w2 _ 0 _:Fr (·=w1.heap.size) w2 w3).blk (ar.blk aE) (by omega)
end Go.Proofs.YtaeecpjhfmcliaaGreatDoor
/- Table: the row with its code; the table that each law looks at. No condition. -/
namespace Go.Proofs.YtaeecpjhfmcliaaGreatDoor
open Go.Sh Go.RowKit Tryz
def zYB(f:Fld)(v:Val):List UInt8:=v.s.data.toList ++ List.replicate (f.width.toNat - v.s.size) 32
theorem yZ3 (f:Fld) (v:Val) (hw:(v.s.size:Int)<=f.width/\f.width<=1000) (w:World):Calls prog 186 #[yQ9 f,zWt v] w λe w'=>e=.returned (.string (bs (zYB f v)))/\Pu w w':=by
 refine yKD _ _ _ _ _ _ _ w _ ?_
 refine alB λw1 ax aE=>alB λw2 ar aN=>zQf λw3 aA _=>?_
 have bg:=ar.trans aA
 refine⟨λu=>Pu w3 u,Pu.refl _,v.s,λu hu=>cl (hu.blk (aA.blk aN)) 2,f.width,λu hu=>cl (hu.blk (bg.blk aE)) 2,v.s,λu hu=>cl (hu.blk (aA.blk aN)) 2,?_⟩
 rw[zQa (by omega) (by omega)]
 have e1:f.width - ((v.s.size:Nat):Int)=((f.width.toNat - v.s.size:Nat):Int):=by omega
 rw[e1]
 refine(zKe 32 _ (by omega) w3).mono ?_
 rintro e w4 ⟨rfl,aJ⟩
 refine⟨_,rfl,aJ,?_,?_,(ax.trans bg).trans aJ⟩
 ·have e4:=zQ3 (List.replicate (f.width.toNat - v.s.size) 32);rw[List.length_replicate]at e4;omega
 ·rw[zZM,zQH];rfl
def zZG(t:Tbl)(k:Int):Int:=if zQi t ≠ 0 then zQi t else if k<1∨(t.recs.length:Int)<k then 4 else 0
def zY6(sh:Fld->Val->List UInt8)(t:Tbl)(k:Int):List UInt8:=if zZG t k=0 then(match t.recs[(k - 1).toNat]? with|some x=>zJm sh t.fields x|none=>[])else []
theorem zV2{l:List Fld}{p:Int}{r:Rec}(h:zQA l p r=0):r.v.length=l.length/\zJ4 l p r.v=true:=by
 by_cases h1:r.v.length=l.length
 ·rw[zZY h1]at h
  refine⟨h1,?_⟩
  cases hx:zJ4 l p r.v
  ·rw[hx]at h;simp at h
  ·rfl
 ·rw[zWy h1]at h;omega
theorem zZB{l:List Fld}{p:Int}:∀{rs:List Rec},zXr l p rs=0->∀x ∈ rs,zQA l p x=0
 | [],_,_,hx=>by cases hx
 | a :: rs,h,x,hx=>by
  unfold zXr at h
  by_cases h1:zQA l p a ≠ 0
  ·rw[if_pos h1]at h;exact absurd h h1
  ·rw[if_neg h1]at h
   rcases List.mem_cons.1 hx with rfl|hx
   ·simpa using h1
   ·exact zZB h x hx
theorem rowE_c {w:World} {t:Tbl} {f r:SV} {sh:Fld->Val->List UInt8} (h:zXD w t f r) (hl:Lim.ok t.fields) (k:Int) (hk:zZZ k) (hW:zQi t=0->∀x ∈ t.recs,yJr sh t.fields x.v/\zX1 sh t.fields x.v ≠ []) :
  Calls prog 144 #[zYj t f r,.int .i64 k] w λe w'=>∃q:SV,e=.returned (.tuple #[.slice q.a q.len q.cap,.int .i64 (zZG t k)])/\zQe w w' q (zY6 sh t k)/\Pu w w':=by
 refine yWj _ _ _ _ w _ ?_
 refine alB λw1 ax aE=>⟨_,cl aE 0,_,cl aE 1,_,cl aE 2,(zZu (h.pu ax) hl).mono ?_⟩
 rintro e w2 ⟨rfl,ar⟩
 have cT:=ax.trans ar
 have hrl:=h.recs.len
 have no:∀{c:Int},c ≠ 0->zZG t k=c->∃q:SV,Ending.returned (.tuple #[.slice none 0 0,.int .i64 c])=.returned (.tuple #[.slice q.a q.len q.cap,.int .i64 (zZG t k)])/\zQe w w2 q (zY6 sh t k)/\Pu w w2:=λh1 h2=>
  ⟨⟨none,0,0⟩,by rw[h2],by unfold zY6;rw[if_neg (by rw[h2];exact h1)];exact zQe.nil w w2,cT⟩
 refine⟨_,rfl,Br.of (λd=>no (zQ5 d) (by unfold zZG;rw[if_pos (zQ5 d)])) (λd=>Br.of (λd1=>no (c:=4) (by decide) ?_) (λd1=>⟨_,cl (ar.blk aE) 2,Br.of (λd2=>no (c:=4) (by decide) ?_) (λd2=>?_)⟩))⟩
 ·unfold zZG;rw[if_neg (by rw[zQs d];simp),if_pos (.inl (zQk d1))]
 ·unfold zZG;rw[if_neg (by rw[zQs d];simp),if_pos (.inr (by have:=zQk d2;omega))]
 have hv:=zQs d
 have d1:=zQd d1
 have d2:=zQd d2
 obtain⟨hpg,hvf,fK,hfb⟩:=zKl hv
 obtain⟨_,hall,_,gk,_⟩:=zXf hvf
 have hki:(k - 1).toNat<t.recs.length:=by omega
 obtain⟨x,hx⟩:=zQZ hki
 have hxm:=List.mem_of_getElem? hx
 obtain⟨hxl,_⟩:=zV2 (zZB hfb x hxm)
 have hc:zZG t k=0:=by unfold zZG;rw[if_neg (by rw[hv];simp),if_neg (by omega)]
 refine zQf λw3 aA _=>?_
 have bg:=ar.trans aA
 have aZ:=ax.trans bg
 rw[zQa (by omega) (by have:=h.recs.lim;omega)]
 obtain⟨a,q,ha,hi,hq,c0,c1⟩:=yQz (h.recs.pu aZ) hx
 refine⟨_,cl (bg.blk aE) 1,_,cl (bg.blk aE) 2,a,ha,by omega,by omega,_,c0,_,c1,(row_c (sh:=sh) (h.fields.pu aZ) hq hxl gk (WOk.of hall) (hW hv x hxm).1 (hW hv x hxm).2).mono ?_⟩
 rintro e w4 ⟨o,rfl,ho,aJ⟩
 refine⟨o,rfl,o,by rw[hc],?_,aZ.trans aJ⟩
 unfold zY6;rw[if_pos hc,hx];exact ho.low aZ.size
theorem xQU{w0 w:World}{s:SV}{l:List UInt8}(h:zQe w0 w s l):(convert 22 9 (.slice s.a s.len s.cap)).run prog w=.ok (.string (bs l)) w:=by
 obtain⟨⟨hl,ho⟩,_⟩:=h
 rcases ho with rfl|⟨g,cur,h3,h4,h5,h6,h7,h8⟩
 ·have:l=[]:=by simpa using hl
  subst this
  exact Lib.run_convert_nil_bytes w 22 9 5 0 u37 u5 u9
 ·have hsl:s.len=(bs l).size:=by rw[zQ3];simp at hl;omega
  rw[h3,hsl]
  refine Lib.run_convert_whole w 22 5 9 u37 u5 u9 g 0 (bs l) (λi hi=>?_) s.cap
  rw[Nat.zero_add,zQF h4]
  have hi':i<l.length:=by rw[zQ3]at hi;exact hi
  have h1:(cur.toList.take (s.len * 1))[i]?=some (u8V (l[i])):=by rw[h8];simp[hi']
  rw[List.getElem?_take]at h1
  split at h1
  ·have h2:cur[i]?=some (u8V l[i]):=by simpa using h1
   rw[h2];rfl
  ·cases h1
end Go.Proofs.YtaeecpjhfmcliaaGreatDoor
/- Table: lengths and offsets; how large a table is; the law on which tables there are. No condition. -/
namespace Go.Proofs.YtaeecpjhfmcliaaGreatDoor
open Go.Sh Go.RowKit Tryz
theorem u55:prog.underlying 52=some (.slice 3):=by kernel_rfl
theorem info3:(prog.info? 3).map (λi=>(i.zero,i.size,i.bytes))=some (some (.int .i64 0),1,8):=by kernel_rfl
def zVb(w0 w:World)(s:SV)(l:List Int):Prop:=zQj w 3 1 s (l.map xQq)/\∀b ∈ zQb s,w0.heap.size<=b
theorem zVb.len{w0 w:World}{s:SV}{l:List Int}(h:zVb w0 w s l):s.len=l.length:=by have:=h.1.1;simp at this;omega
theorem zVb.pu{w0 w w':World}{s:SV}{l:List Int}(h:zVb w0 w s l)(hp:Pu w w'):zVb w0 w' s l:=⟨h.1.pu hp,h.2⟩
theorem zVb.nil(w0 w:World):zVb w0 w ⟨none,0,0⟩ []:=⟨zQj.nil w 3 1,by simp[zQb]⟩
theorem zVb.low{w0 w1 w:World}{s:SV}{l:List Int}(h:zVb w1 w s l)(hz:w0.heap.size<=w1.heap.size):zVb w0 w s l:=⟨h.1,λb hb=>Nat.le_trans hz (h.2 b hb)⟩
theorem zVb.push {w0 w:World} {s:SV} {l:List Int} (h:zVb w0 w s l) (hz:w0.heap.size<=w.heap.size) {r:Nat} {n:Int} (hr:w.heap[r]?=some (.cells #[.int .i64 n] 3)) (hb:l.length<=1000000) :
  ∃(s':SV) (w':World),(Builtin.append_ #[52,52] 52 #[.slice s.a s.len s.cap,.slice (some ⟨r,0,none⟩) 1 1]).run prog w=.ok (.slice s'.a s'.len s'.cap) w'/\zVb w0 w' s' (l ++ [n])/\Fr (· ∈ zQb s) w w':=by
 have h1:=h.len
 obtain⟨s',w',hra,hrow,hf,hblk,_⟩:=xQI (P:=prog) (ty:=52) u55 info3 rfl h.1 (a:=⟨r,0,none⟩) (u:=.int .i64 n) (by rw[zQF hr];rfl) rfl (by omega)
 refine⟨s',w',hra,⟨by simpa using hrow,λb hb=>?_⟩,hf⟩
 rcases hblk b hb with h2|h2
 ·exact h.2 b h2
 ·omega
theorem yY7{w:World}{s:SV}{l:List Fld}(h:zXF w s l)(hl:Lim.ok l):Calls prog 128 #[.slice s.a s.len s.cap] w λe w'=>e=.returned (.tuple #[.int .i64 (if zQG l=0 then zX0 l else 0),.int .i64 (zQG l)])/\Pu w w':=by
 refine yKv _ w _ ((zZs h hl).mono ?_)
 rintro e w1 ⟨rfl,ax⟩
 refine⟨_,rfl,Br.of (λd=>⟨by rw[if_neg (zQ5 d)],ax⟩) (λd=>(zVo (h.pu ax) (WOk.of (zXf (zQs d)).2.1)).mono ?_)⟩
 rintro e w2 ⟨rfl,ar⟩
 exact⟨_,rfl,by rw[zQs d];rfl,ax.trans ar⟩
end Go.Proofs.YtaeecpjhfmcliaaGreatDoor
/- Table: the law on what a value becomes in a field. No condition. -/
namespace Go.Proofs.YtaeecpjhfmcliaaGreatDoor
open Go.Sh Go.RowKit Tryz
theorem zKm{α:Type}(p:α->Bool):∀l:List α,(l.dropWhile p).dropWhile p=l.dropWhile p
 | []=>rfl
 | a :: l=>by
  by_cases h:p a=true
  ·rw[List.dropWhile_cons,if_pos h];exact zKm p l
  ·rw[List.dropWhile_cons,if_neg h,List.dropWhile_cons,if_neg h]
theorem xQi(l:List UInt8):zZo (zZo l)=zZo l:=by
 unfold zZo;rw[List.reverse_reverse,zKm]
theorem yZn(a b:Val)(w:World):Calls prog 140 #[zWt a,zWt b] w λe w'=>e=.returned (.bool (decide (a=b)))/\Pu w w':=by
 refine yKr _ _ _ _ _ _ w _ ?_
 refine alB λw1 ax aE=>alB λw2 ar aN=>?_
 have hp:=ax.trans ar
 have q1:=ar.blk aE
 refine⟨_,cl0 q1,_,cl0 aN,Br.of (λd=>⟨_,cl q1 1,_,cl aN 1,Br.of (λd1=>⟨_,cl q1 2,_,cl aN 2,?_,hp⟩) (λd1=>⟨?_,hp⟩)⟩) (λd=>⟨?_,hp⟩)⟩
 ·rw[zXz]
  congr 2
  have e1:a.kind=b.kind:=zQC d
  have e2:a.n=b.n:=zQC d1
  refine zZl ⟨λe3=>?_,λe=>by rw[e]⟩
  obtain⟨a1,a2,a3⟩:=a;obtain⟨b1,b2,b3⟩:=b
  simp only at e1 e2 e3
  subst e1 e2 e3;rfl
 ·rw[decide_eq_false (λe=>zQm d1 (by rw[e]))]
 ·rw[decide_eq_false (λe=>zQm d (by rw[e]))]
end Go.Proofs.YtaeecpjhfmcliaaGreatDoor
/- Table: records of empty values, places of names; the law on them. No condition. -/
namespace Go.Proofs.YtaeecpjhfmcliaaGreatDoor
open Go.Sh Go.RowKit Tryz
theorem u44:prog.underlying 38=some (.slice 73):=by kernel_rfl
theorem info25:(prog.info? 73).map (λi=>(i.zero,i.size,i.bytes))=some (some (.agg #[.int .i64 0,.int .i64 0,.string ⟨#[]⟩]),3,32):=by kernel_rfl
theorem s46:zXq prog 67=2:=by kernel_rfl
theorem zXP(v:Val):(zVO v).length=3:=rfl
def zJy(w0 w:World)(s:SV)(l:List Val):Prop:=zQj w 73 3 s (l.flatMap zVO)/\∀b ∈ zQb s,w0.heap.size<=b
theorem zJy.len{w0 w:World}{s:SV}{l:List Val}(h:zJy w0 w s l):s.len=l.length:=h.1.len zXP (by decide)
theorem zJy.pu{w0 w w':World}{s:SV}{l:List Val}(h:zJy w0 w s l)(hp:Pu w w'):zJy w0 w' s l:=⟨h.1.pu hp,h.2⟩
theorem zJy.fr{B:Nat->Prop}{w0 w w':World}{s:SV}{l:List Val}(h:zJy w0 w s l)(hf:Fr B w w')(hn:∀k ∈ zQb s,¬B k):zJy w0 w' s l:=⟨h.1.fr hf hn,h.2⟩
theorem zJy.nil(w0 w:World):zJy w0 w ⟨none,0,0⟩ []:=⟨zQj.nil w 73 3,by simp[zQb]⟩
theorem zJy.low{w0 w1 w:World}{s:SV}{l:List Val}(h:zJy w1 w s l)(hz:w0.heap.size<=w1.heap.size):zJy w0 w s l:=⟨h.1,λb hb=>Nat.le_trans hz (h.2 b hb)⟩
theorem zJy.push {w0 w:World} {s:SV} {l:List Val} (h:zJy w0 w s l) (hz:w0.heap.size<=w.heap.size) {r:Nat} {v:Val} {c:Array Value} (hr:w.heap[r]?=some (.cells c 73)) (hc:c=#[.int .i64 v.kind,.int .i64 v.n,.string v.s]) (hb:l.length<=1000000) :
  ∃(s':SV) (w':World),(Builtin.append_ #[38,38] 38 #[.slice s.a s.len s.cap,.slice (some ⟨r,0,none⟩) 1 1]).run prog w=.ok (.slice s'.a s'.len s'.cap) w'/\zJy w0 w' s' (l ++ [v])/\Fr (· ∈ zQb s) w w':=by
 subst hc
 have h1:=h.len
 obtain⟨s',w',hra,hrow,hf,hblk,_⟩:=zQ9 (P:=prog) (ty:=38) u44 info25 rfl (by decide) h.1 (A:=some ⟨r,0,none⟩) (m:=1) (c:=1) (news:=zVO v) rfl (λj u hu=>⟨_,rfl,by rw[cl hr];simpa using hu⟩) (λu hu=>by simp[zVO]at hu;rcases hu with rfl|rfl|rfl <;> rfl) (by omega)
 refine⟨s',w',hra,⟨by simpa using hrow,λb hb=>?_⟩,hf⟩
 rcases hblk b hb with h2|h2
 ·exact h.2 b h2
 ·omega
structure RdV(w:World)(s:SV)(l:List Val):Prop where
 len:s.len=l.length
 lim:l.length<=140737488355328
 get:∀i v,l[i]?=some v->∃a,s.a=some a/\w.cell? ((a.add (i * 3)).add 0)=some (.int .i64 v.kind)/\w.cell? ((a.add (i * 3)).add 1)=some (.int .i64 v.n)/\w.cell? ((a.add (i * 3)).add 2)=some (.string v.s)
theorem RdV.pu{w w':World}{s:SV}{l:List Val}(h:RdV w s l)(hp:Pu w w'):RdV w' s l:=⟨h.len,h.lim,λi v hv=>by
 obtain⟨a,h1,h2,h3,h4⟩:=h.get i v hv
 exact⟨a,h1,hp.cell h2,hp.cell h3,hp.cell h4⟩⟩
theorem RdV.of{w:World}{s:SV}{l:List Val}(h:zXF w s l):RdV w s l:=⟨h.len,by have:=h.lim;have:=h.len;omega,λi v hv=>by
 obtain⟨a,h1,_,_,_,h2,h3,h4⟩:=xX0 h hv
 exact⟨a,h1,h2,h3,h4⟩⟩
theorem zJy.rd{w0 w:World}{s:SV}{l:List Val}(h:zJy w0 w s l)(hb:l.length<=140737488355328):RdV w s l:=⟨h.len,hb,λi v hv=>by
 obtain⟨a,h1,_,h2⟩:=h.1.elem zXP hv (o:=0) rfl
 obtain⟨a',md,_,h3⟩:=h.1.elem zXP hv (o:=1) rfl
 obtain⟨a'',h1'',_,h4⟩:=h.1.elem zXP hv (o:=2) rfl
 rw[h1]at md h1'';cases md;cases h1''
 exact⟨a,h1,h2,h3,h4⟩⟩
theorem zZP {α:Type} {a b:List α} {k:Nat} (h:a.take k=b.take k) {x y:α} (hx:a[k]?=some x) (hy:b[k]?=some y) (e:x=y):a.take (k+1)=b.take (k+1):=by
 rw[zQ8 hx,zQ8 hy,h,e]
theorem yQH{w:World}{s t:SV}{a b:List Val}(ha:RdV w s a)(hb:RdV w t b):Calls prog 105 #[.slice s.a s.len s.cap,.slice t.a t.len t.cap] w λe w'=>e=.returned (.bool (decide (a=b)))/\Pu w w':=by
 refine yJN _ _ w _ ?_
 have hla:=ha.len
 have hlb:=hb.len
 have hlim:=ha.lim
 refine Br.of (λd=>⟨by rw[decide_eq_false (λe=>zQ5 d (by rw[hla,hlb,e]))],Pu.refl _⟩) (λd=>?_)
 have hab:a.length=b.length:=by have:=zQs d;omega
 refine zQ0 a.length (λk t w'=>t=(k:Int)/\a.take k=b.take k/\Pu w w') ⟨rfl,by simp,Pu.refl _⟩ ?_
 rintro k J t w2 hk ⟨ht,he,hp⟩ hJ
 obtain rfl:t=(k:Int):=ht
 refine Br.of (λd1=>zQf λw3 aA _=>?_) (λd1=>?_)
 ·have aG:k<a.length:=by have:=zQk d1;omega
  obtain⟨x,hx⟩:=zQZ aG
  obtain⟨y,hy⟩:=zQZ (show k<b.length by omega)
  obtain⟨p,hpa,c0,c1,c2⟩:=((ha.pu hp).pu aA).get k x hx
  obtain⟨q,hqa,e0,e1,e2⟩:=((hb.pu hp).pu aA).get k y hy
  refine⟨p,hpa,by omega,by omega,_,c0,_,c1,_,c2,q,hqa,by omega,by omega,_,e0,_,e1,_,e2,(yZn x y w3).mono ?_⟩
  rintro e w4 ⟨rfl,aJ⟩
  refine⟨_,rfl,Br.of (λd2=>⟨?_,(hp.trans aA).trans aJ⟩) (λd2=>?_)⟩
  ·rw[decide_eq_false]
   intro e
   subst e
   rw[hx]at hy
   cases hy
   simp at d2
  ·rw[zQa (by omega) (by omega)]
   exact hJ _ _ aG ⟨by omega,zZP he hx hy (by simpa using d2),(hp.trans aA).trans aJ⟩
 ·have aG:k=a.length:=by have:=zQd d1;omega
  subst aG
  rw[List.take_length,hab,List.take_length]at he
  exact⟨by rw[decide_eq_true he],hp⟩
theorem yXx{w:World}{s t:SV}{x y:Bool}{a b:List Val}(ha:RdV w s a)(hb:RdV w t b):Calls prog 70 #[.agg #[.bool x,.slice s.a s.len s.cap],.agg #[.bool y,.slice t.a t.len t.cap]] w λe w'=>e=.returned (.bool (decide (x=y) && decide (a=b)))/\Pu w w':=by
 refine yWW _ _ _ _ w _ (alB λw1 ax aE=>alB λw2 ar aN=>?_)
 have hp:=ax.trans ar
 have q1:=ar.blk aE
 refine⟨_,cl0 q1,_,cl0 aN,Br.of (λd=>⟨_,cl q1 1,_,cl aN 1,(yQH (ha.pu hp) (hb.pu hp)).mono ?_⟩) (λd=>⟨?_,hp⟩)⟩
 ·rintro e w3 ⟨rfl,aA⟩
  exact⟨_,rfl,by rw[decide_eq_true (p:=x=y) (by simpa using d)];rfl,hp.trans aA⟩
 ·rw[decide_eq_false (p:=x=y) (by simpa using d)];rfl
theorem yWJ(n:Int)(w:World):Calls prog 45 #[.int .i64 n] w λe w'=>e=.returned (zWt ⟨2,n,⟨#[]⟩⟩)/\Pu w w':=by
 refine yVB _ w _ (zYt rfl s25.symm rfl λw1 ax _ aE=>?_)
 exact⟨_,cl aE 0,_,cl aE 1,_,cl aE 2,rfl,ax⟩
def zZC(l:List Fld):List Val:=if zQG l=0 then l.map zXt else []
theorem yWS {α β:Type} (g:α->β) {l:List α} {k:Nat} {x:α} (h:l[k]?=some x):(l.take (k+1)).map g=(l.take k).map g ++ [g x]:=by
 rw[zQ8 h,List.map_append];rfl
theorem xWc{w:World}{s:SV}{l:List Fld}(h:zXF w s l)(hl:Lim.ok l):Calls prog 164 #[.slice s.a s.len s.cap] w λe w'=>∃q:SV,e=.returned (.tuple #[.agg #[.bool false,.slice q.a q.len q.cap],.int .i64 (zQG l)])/\zJy w w' q (zZC l)/\Pu w w':=by
 refine yKi _ w _ (alB λw1 ax aE=>(zZs (h.pu ax) hl).mono ?_)
 rintro e w2 ⟨rfl,ar⟩
 have aN:=ar.blk aE
 refine⟨_,rfl,Br.of (λd=>zQh aN s46.symm rfl rfl λw3 bo fU ng=>⟨_,cl bo 0,⟨none,0,0⟩,cl bo 1,⟨none,0,0⟩,rfl,by unfold zZC;rw[if_neg (zQ5 d)];exact zJy.nil w w3,(ax.trans ar).andNew fU λi hi=>by omega⟩) (λd=>alB λw3 aA bo=>?_)⟩
 have hv:=zQs d
 have gk:=(zXf hv).2.2.2.1
 have hlen:=h.len
 have aZ:=(ax.trans ar).trans aA
 have z1:=ax.size
 have z2:=ar.size
 have z3:=aA.size
 have ws:w2.heap.size<w3.heap.size:=zQz bo
 have me:w.heap.size<w1.heap.size:=zQz aE
 refine zQ0 l.length (λk t w'=>t=(k:Int)/\∃q:SV,w'.heap[w.heap.size]?=some (.cells #[.bool false,.slice none 0 0] 67)/\w'.heap[w2.heap.size]?=some (.cells #[.bool false,.slice q.a q.len q.cap] 67)/\zJy w3 w' q ((l.take k).map zXt)/\w3.heap.size<=w'.heap.size/\Pu w w') ⟨rfl,⟨none,0,0⟩,aA.blk aN,bo,zJy.nil w3 w3,Nat.le_refl _,aZ⟩ ?_
 rintro k J t w4 hk ⟨ht,q,a1,a2,a3,a4,hp⟩ hJ
 obtain rfl:t=(k:Int):=ht
 have htl:=List.length_take_le k l
 refine Br.of (λd1=>?_) (λd1=>?_)
 ·have aG:k<l.length:=by have:=zQk d1;omega
  obtain⟨f,hf⟩:=zQZ aG
  obtain⟨a,ha,hi,_,_,_,c0,c1,c2,c3⟩:=zJw (h.pu hp) hf
  refine⟨a,ha,by omega,by omega,_,c0,_,c1,_,c2,_,c3,zYt rfl s23.symm rfl λw5 aV kG bi=>zQf λw6 bV _=>?_⟩
  have b6:=(aV.trans bV).blk a2
  refine⟨λu=>Pu w6 u,Pu.refl _,q,λu hu=>cl (hu.blk b6) 1,f.name,λu hu=>cl (hu.blk (bV.blk bi)) 0,f.kind,λu hu=>cl (hu.blk (bV.blk bi)) 1,f.width,λu hu=>cl (hu.blk (bV.blk bi)) 2,f.null,λu hu=>cl (hu.blk (bV.blk bi)) 3,(yWQ f w6).mono ?_⟩
  rintro e w7 ⟨rfl,cK⟩
  refine⟨_,_,_,rfl,cK,alB λw8 bM lZ=>⟨cK.trans bM,?_⟩⟩
  have nq:=(((aV.trans bV).trans cK).trans bM)
  have z48:=nq.size
  obtain⟨q',w9,e9,r9,f9⟩:=(a3.pu nq).push (by omega) lZ rfl (by rw[List.length_map];omega)
  have n2:¬w2.heap.size ∈ zQb q:=λhc=>by have:=a3.2 _ hc;omega
  have n1:¬w.heap.size ∈ zQb q:=λhc=>by have:=a3.2 _ hc;omega
  have kH:=f9.blk (nq.blk a2) n2
  have za:=f9.blk (nq.blk a1) n1
  refine⟨q',w9,e9,zQw (o:=1) kH (by simp) λwx ex hbx=>?_⟩
  have fx:Fr (·=w2.heap.size) w9 wx:=by rw[ex];exact Fr.cell w9 _ _ _
  have zx:wx.heap.size=w9.heap.size:=by rw[ex];simp
  have z9:=f9.size
  rw[zQa (by omega) (by omega)]
  refine hJ _ _ aG ⟨by omega,q',fx.blk za (by omega),hbx,by rw[yWS _ hf];exact r9.fr fx λi hi=>by have:=r9.2 i hi;omega,by omega,?_⟩
  have p9:Pu w w9:=(hp.trans nq).andNew f9 λi hi=>by have:=a3.2 i hi;omega
  exact p9.andNew fx λi hi=>by omega
 ·have aG:k=l.length:=by have:=zQd d1;omega
  subst aG
  rw[List.take_length]at a3
  refine⟨_,cl a2 0,q,cl a2 1,zQh a1 s46.symm rfl rfl λw5 bi cr kG=>⟨_,cl bi 0,q,cl bi 1,q,by rw[hv],?_,hp.andNew cr λi hi=>by omega⟩⟩
  unfold zZC;rw[if_pos hv]
  exact(a3.fr cr λi hi=>by have:=a3.2 i hi;omega).low (by omega)
def yWA(l:List Fld)(s:ByteArray):Option Nat:=l.findIdx? λf=>decide (f.name=s)
def idxK(l:List Fld)(s:ByteArray):Int:=((yWA l s).getD 0:Nat)
theorem xKS{w:World}{s:SV}{l:List Fld}(h:zXF w s l)(nm:ByteArray):Calls prog 82 #[.slice s.a s.len s.cap,.string nm] w λe w'=>e=.returned (.tuple #[.int .i64 (idxK l nm),.bool (yWA l nm).isSome])/\Pu w w':=by
 refine yVK _ _ w _ (alB λw1 ax aE=>?_)
 have tells:yJs l 114 #[.pointer (some ⟨w.heap.size,0,none⟩)] (λf=>decide (f.name=nm)) w1:=⟨by kernel_rfl,λf hf w2 ar=>by
  refine yW6 _ _ _ _ _ w2 _ (alB λw3 aA bo=>⟨_,cl0 bo,_,cl0 ((ar.trans aA).blk aE),?_,aA⟩)
  rw[zXz]⟩
 refine(zV8 (h.pu ax) tells).mono ?_
 rintro e w2 ⟨rfl,ar⟩
 refine⟨_,rfl,_,w2,yYa _ _ _ _ _ _,?_,ax.trans ar⟩
 unfold idxK yWA
 cases l.findIdx? λf=>decide (f.name=nm)with
 | none=>rfl
 | some k=>
  dsimp only
  rw[Int.max_eq_left (by omega),decide_eq_true (by omega)];rfl
end Go.Proofs.YtaeecpjhfmcliaaGreatDoor
/- Table: in which records two tables differ; the law on it. No condition. -/
namespace Go.Proofs.YtaeecpjhfmcliaaGreatDoor
open Go.Sh Go.RowKit Tryz
theorem xQt:zVN prog 129 [.str,.int .i64,.int .i64,.bool]=true:=by kernel_rfl
theorem xWk:prog.eqGuardType prog.depth 129=false:=by kernel_rfl
theorem xQg:zVN prog 73 [.int .i64,.int .i64,.str]=true:=by kernel_rfl
theorem under4:prog.underlying 4=some .bool:=by kernel_rfl
theorem xQ1{a b:Fld}(h:zYp a=zYp b):a=b:=by
 obtain⟨a1,a2,a3,a4⟩:=a;obtain⟨b1,b2,b3,b4⟩:=b
 simp[zYp]at h;simp[h]
theorem neFld(x y:Operand)(a b:Fld)(w:World):(eqS .neq 129 x y (yQ9 a) (yQ9 b)).run prog w=.ok (.bool (!decide (a=b))) w:=by
 refine yJv (ks:=[.str,.int .i64,.int .i64,.bool]) (xs:=zYp a) (ys:=zYp b) xQt xWk rfl rfl ?_ w
 rw[decide_eq_true_iff]
 exact⟨λh=>by rw[h],xQ1⟩
theorem neVal(x y:Operand)(a b:Val)(w:World):(eqS .neq 73 x y (zWt a) (zWt b)).run prog w=.ok (.bool (!decide (a=b))) w:=by
 refine yJv (ks:=[.int .i64,.int .i64,.str]) (xs:=zVO a) (ys:=zVO b) xQg yVh rfl rfl ?_ w
 rw[decide_eq_true_iff]
 exact⟨λh=>by rw[h],yJz⟩
structure RdF(w:World)(s:SV)(l:List Fld):Prop where
 len:s.len=l.length
 lim:l.length<=140737488355328
 get:∀i f,l[i]?=some f->∃a,s.a=some a/\w.cell? ((a.add (i * 4)).add 0)=some (.string f.name)/\w.cell? ((a.add (i * 4)).add 1)=some (.int .i64 f.kind)/\w.cell? ((a.add (i * 4)).add 2)=some (.int .i64 f.width)/\w.cell? ((a.add (i * 4)).add 3)=some (.bool f.null)
theorem RdF.pu{w w':World}{s:SV}{l:List Fld}(h:RdF w s l)(hp:Pu w w'):RdF w' s l:=⟨h.len,h.lim,λi v hv=>by
 obtain⟨a,h1,h2,h3,h4,h5⟩:=h.get i v hv
 exact⟨a,h1,hp.cell h2,hp.cell h3,hp.cell h4,hp.cell h5⟩⟩
theorem RdF.of{w:World}{s:SV}{l:List Fld}(h:zXF w s l):RdF w s l:=⟨h.len,by have:=h.lim;have:=h.len;omega,λi v hv=>by
 obtain⟨a,h1,_,_,_,_,h2,h3,h4,h5⟩:=zJw h hv
 exact⟨a,h1,h2,h3,h4,h5⟩⟩
theorem yQ6 {α:Type} {a b:List α} {k:Nat} {x y:α} (hx:a[k]?=some x) (hy:b[k]?=some y) (h:x ≠ y):a ≠ b:=λe=>by
 subst e;rw[hx]at hy;cases hy;exact h rfl
theorem xQC{w:World}{s t:SV}{a b:List Fld}(ha:RdF w s a)(hb:RdF w t b):Calls prog 107 #[.slice s.a s.len s.cap,.slice t.a t.len t.cap] w λe w'=>e=.returned (.bool (decide (a=b)))/\Pu w w':=by
 refine yWz _ _ w _ ?_
 have hla:=ha.len
 have hlb:=hb.len
 have hlim:=ha.lim
 refine Br.of (λd=>⟨by rw[decide_eq_false (λe=>zQ5 d (by rw[hla,hlb,e]))],Pu.refl _⟩) (λd=>?_)
 have hab:a.length=b.length:=by have:=zQs d;omega
 refine zQ0 a.length (λk t w'=>t=(k:Int)/\a.take k=b.take k/\Pu w w') ⟨rfl,by simp,Pu.refl _⟩ ?_
 rintro k J t w2 hk ⟨ht,he,hp⟩ hJ
 obtain rfl:t=(k:Int):=ht
 refine Br.of (λd1=>zQf λw3 aA _=>?_) (λd1=>?_)
 ·have aG:k<a.length:=by have:=zQk d1;omega
  obtain⟨x,hx⟩:=zQZ aG
  obtain⟨y,hy⟩:=zQZ (show k<b.length by omega)
  obtain⟨p,hpa,c0,c1,c2,c3⟩:=((ha.pu hp).pu aA).get k x hx
  obtain⟨q,hqa,e0,e1,e2,e3⟩:=((hb.pu hp).pu aA).get k y hy
  refine⟨p,hpa,by omega,by omega,_,c0,_,c1,_,c2,_,c3,q,hqa,by omega,by omega,_,e0,_,e1,_,e2,_,e3,_,λw=>neFld _ _ x y w,Br.of (λd2=>⟨?_,hp.trans aA⟩) (λd2=>?_)⟩
  ·rw[decide_eq_false (yQ6 hx hy (by simpa using d2))]
  ·rw[zQa (by omega) (by omega)]
   exact hJ _ _ aG ⟨by omega,zZP he hx hy (by simpa using d2),hp.trans aA⟩
 ·have aG:k=a.length:=by have:=zQd d1;omega
  subst aG
  rw[List.take_length,hab,List.take_length]at he
  exact⟨by rw[decide_eq_true he],hp⟩
theorem yQR{w:World}{s t:SV}{a b:List Fld}(ha:RdF w s a)(hb:RdF w t b):Calls prog 69 #[.slice s.a s.len s.cap,.slice t.a t.len t.cap] w λe w'=>e=.returned (.bool (decide (a=b)))/\Pu w w':=by
 refine yYC _ _ w _ ?_
 have hla:=ha.len
 have hlb:=hb.len
 have hlim:=ha.lim
 refine Br.of (λd=>⟨by rw[decide_eq_false (λe=>zQ5 d (by rw[hla,hlb,e]))],Pu.refl _⟩) (λd=>?_)
 have hab:a.length=b.length:=by have:=zQs d;omega
 refine zQ0 a.length (λk t w'=>t=(k:Int)/\a.take k=b.take k/\Pu w w') ⟨rfl,by simp,Pu.refl _⟩ ?_
 rintro k J t w2 hk ⟨ht,he,hp⟩ hJ
 obtain rfl:t=(k:Int):=ht
 refine Br.of (λd1=>zQf λw3 aA _=>?_) (λd1=>?_)
 ·have aG:k<a.length:=by have:=zQk d1;omega
  obtain⟨x,hx⟩:=zQZ aG
  obtain⟨y,hy⟩:=zQZ (show k<b.length by omega)
  obtain⟨p,hpa,c0,c1,c2,c3⟩:=((ha.pu hp).pu aA).get k x hx
  obtain⟨q,hqa,e0,e1,e2,e3⟩:=((hb.pu hp).pu aA).get k y hy
  refine⟨p,hpa,by omega,by omega,_,c0,_,c1,_,c2,_,c3,q,hqa,by omega,by omega,_,e0,_,e1,_,e2,_,e3,_,λw=>neFld _ _ x y w,Br.of (λd2=>⟨?_,hp.trans aA⟩) (λd2=>?_)⟩
  ·rw[decide_eq_false (yQ6 hx hy (by simpa using d2))]
  ·rw[zQa (by omega) (by omega)]
   exact hJ _ _ aG ⟨by omega,zZP he hx hy (by simpa using d2),hp.trans aA⟩
 ·have aG:k=a.length:=by have:=zQd d1;omega
  subst aG
  rw[List.take_length,hab,List.take_length]at he
  exact⟨by rw[decide_eq_true he],hp⟩
theorem xQP{w:World}{s t:SV}{a b:List Val}(ha:RdV w s a)(hb:RdV w t b):Calls prog 108 #[.slice s.a s.len s.cap,.slice t.a t.len t.cap] w λe w'=>e=.returned (.bool (decide (a=b)))/\Pu w w':=by
 refine yJG _ _ w _ ?_
 have hla:=ha.len
 have hlb:=hb.len
 have hlim:=ha.lim
 refine Br.of (λd=>⟨by rw[decide_eq_false (λe=>zQ5 d (by rw[hla,hlb,e]))],Pu.refl _⟩) (λd=>?_)
 have hab:a.length=b.length:=by have:=zQs d;omega
 refine zQ0 a.length (λk t w'=>t=(k:Int)/\a.take k=b.take k/\Pu w w') ⟨rfl,by simp,Pu.refl _⟩ ?_
 rintro k J t w2 hk ⟨ht,he,hp⟩ hJ
 obtain rfl:t=(k:Int):=ht
 refine Br.of (λd1=>zQf λw3 aA _=>?_) (λd1=>?_)
 ·have aG:k<a.length:=by have:=zQk d1;omega
  obtain⟨x,hx⟩:=zQZ aG
  obtain⟨y,hy⟩:=zQZ (show k<b.length by omega)
  obtain⟨p,hpa,c0,c1,c2⟩:=((ha.pu hp).pu aA).get k x hx
  obtain⟨q,hqa,e0,e1,e2⟩:=((hb.pu hp).pu aA).get k y hy
  refine⟨p,hpa,by omega,by omega,_,c0,_,c1,_,c2,q,hqa,by omega,by omega,_,e0,_,e1,_,e2,_,λw=>neVal _ _ x y w,Br.of (λd2=>⟨?_,hp.trans aA⟩) (λd2=>?_)⟩
  ·rw[decide_eq_false (yQ6 hx hy (by simpa using d2))]
  ·rw[zQa (by omega) (by omega)]
   exact hJ _ _ aG ⟨by omega,zZP he hx hy (by simpa using d2),hp.trans aA⟩
 ·have aG:k=a.length:=by have:=zQd d1;omega
  subst aG
  rw[List.take_length,hab,List.take_length]at he
  exact⟨by rw[decide_eq_true he],hp⟩
def zVz(a b:List Rec)(i:Nat):Bool:=!decide (a[i]?=b[i]?)
def zWI(a b:List Rec)(n:Nat):List Int:=((List.range n).filter (zVz a b)).map λ(i:Nat)=>(i:Int)+1
theorem xQS{a b:List Rec}{n:Nat}(h:zVz a b n=true):zWI a b (n+1)=zWI a b n ++ [(n:Int)+1]:=by
 simp[zWI,List.range_succ,List.filter_append,h]
theorem xWm{a b:List Rec}{n:Nat}(h:zVz a b n=false):zWI a b (n+1)=zWI a b n:=by
 simp[zWI,List.range_succ,List.filter_append,h]
theorem xQX(a b:List Rec)(n:Nat):(zWI a b n).length<=n:=by
 unfold zWI;rw[List.length_map]
 have:=List.length_filter_le (zVz a b) (List.range n)
 simpa using this
def xJG(a b:Tbl):List Int × Int:=if zQi a ≠ 0 then([],zQi a)else if zQi b ≠ 0 then([],zQi b)else if a.page ≠ b.page∨a.fields ≠ b.fields then([],10)else(zWI a.recs b.recs (max a.recs.length b.recs.length),0)
theorem zWl{t:Tbl}(h:zQi t=0):zQT t.page=true/\zQG t.fields=0/\t.recs.length<=300/\zXr t.fields t.page t.recs=0:=by
 unfold zQi at h
 split at h
 ·rename_i h1
  split at h
  ·rename_i h2;exact absurd h h2
  ·rename_i h2
   split at h
   ·cases h
   ·rename_i h3;exact⟨h1,by omega,by omega,h⟩
 ·cases h
theorem xKt{x y:Rec}:(x=y) ↔ (x.gone=y.gone/\x.v=y.v):=by
 obtain⟨a,b⟩:=x;obtain⟨c,d⟩:=y;simp
theorem yJ1{a b:List Rec}{i:Nat}(hm:i<max a.length b.length)(h:a.length<=i∨b.length<=i):zVz a b i=true:=by
 unfold zVz
 rw[Bool.not_eq_true',decide_eq_false_iff_not]
 intro e
 rcases h with h|h
 ·rw[List.getElem?_eq_none h,List.getElem?_eq_getElem (by omega)]at e;cases e
 ·rw[List.getElem?_eq_none (l:=b) h,List.getElem?_eq_getElem (by omega)]at e;cases e
theorem xKO {a b:List Rec} {i:Nat} {x y:Rec} (hx:a[i]?=some x) (hy:b[i]?=some y):zVz a b i=!(decide (x.gone=y.gone) && decide (x.v=y.v)):=by
 unfold zVz
 rw[hx,hy]
 congr 1
 rw[←Bool.decide_and]
 refine zZl ?_
 rw[Option.some_inj,xKt]
theorem zVp {w0 w:World} {s:SV} {a b:List Rec} {k:Nat} (h:zVb w0 w s (zWI a b k)) (hp:Pu w0 w) (hk:k<1000) {J:SV × Int->World->Prop}
  (hJ:∀(s':SV) w',zVb w0 w' s' (zWI a b (k+1))->Pu w0 w'->J (s',(k:Int)+1) w') (hd:zVz a b k=true) :
  alE (.cells #[.int .i64 (IntKind.i64.wrap ((k:Int)+1))] 3) w λr w4=>∃gS:SV,∃w5:World,(Builtin.append_ #[52,52] 52 #[.slice s.a s.len s.cap,.slice (some ⟨r,0,none⟩) 1 1]).run prog w4=.ok (.slice gS.a gS.len gS.cap) w5/\J (gS,IntKind.i64.wrap ((k:Int)+1)) w5:=by
 rw[zQa (by omega) (by omega)]
 refine alB λw4 aJ cA=>?_
 have hl:=xQX a b k
 obtain⟨s',w5,e5,r5,f5⟩:=(h.pu aJ).push (hp.trans aJ).size cA (by omega)
 refine⟨s',w5,e5,hJ s' w5 (by rw[xQS hd];exact r5) ?_⟩
 exact(hp.trans aJ).andNew f5 λi hi=>h.2 i hi
theorem yQ0 {w:World} {r:Nat} {t:Tbl} {f q:SV} (h:w.heap[r]?=some (.cells #[.int .i64 t.page,.slice f.a f.len f.cap,.slice q.a q.len q.cap] 35)):w.cell? ((⟨r,0,none⟩:Addr).add 0)=some (.int .i64 t.page)/\w.cell? ((⟨r,0,none⟩:Addr).add 1)=some (.slice f.a f.len f.cap)/\w.cell? ((⟨r,0,none⟩:Addr).add 2)=some (.slice q.a q.len q.cap):=⟨cl h 0,cl h 1,cl h 2⟩
theorem xQ5{w:World}{a b:Tbl}{fa ra fb rb:SV}(ha:zXD w a fa ra)(hb:zXD w b fb rb)(la:Lim.ok a.fields)(lb:Lim.ok b.fields):Calls prog 72 #[zYj a fa ra,zYj b fb rb] w
  λe w'=>∃q:SV,e=.returned (.tuple #[.slice q.a q.len q.cap,.int .i64 (xJG a b).2])/\zVb w w' q (xJG a b).1/\Pu w w':=by
 refine yYZ _ _ _ _ _ _ w _ (alB λw1 ax aE=>alB λw2 ar aN=>?_)
 have aM:=ax.trans ar
 have b1:∀{wz},Pu w2 wz->_:=λ{wz} (h:Pu w2 wz)=>yQ0 (t:=a) (f:=fa) (q:=ra) (h.blk (ar.blk aE))
 have b2:∀{wz},Pu w2 wz->_:=λ{wz} (h:Pu w2 wz)=>yQ0 (t:=b) (f:=fb) (q:=rb) (h.blk aN)
 refine⟨_,(b1 (Pu.refl _)).1,_,(b1 (Pu.refl _)).2.1,_,(b1 (Pu.refl _)).2.2,(zZu (ha.pu aM) la).mono ?_⟩
 rintro e w3 ⟨rfl,aA⟩
 refine⟨_,rfl,Br.of (λd=>⟨⟨none,0,0⟩,by unfold xJG;rw[if_pos (zQ5 d)],by unfold xJG;rw[if_pos (zQ5 d)];exact zVb.nil w w3,aM.trans aA⟩) (λd=>?_)⟩
 have va:=zQs d
 refine⟨_,(b2 aA).1,_,(b2 aA).2.1,_,(b2 aA).2.2,(zZu (hb.pu (aM.trans aA)) lb).mono ?_⟩
 rintro e w4 ⟨rfl,aJ⟩
 have p4:=aA.trans aJ
 have eA:xJG a b=if zQi b ≠ 0 then([],zQi b)else if a.page ≠ b.page∨a.fields ≠ b.fields then([],10)else(zWI a.recs b.recs (max a.recs.length b.recs.length),0):=by unfold xJG;rw[if_neg (by omega)]
 refine⟨_,rfl,Br.of (λd=>⟨⟨none,0,0⟩,by rw[eA,if_pos (zQ5 d)],by rw[eA,if_pos (zQ5 d)];exact zVb.nil w w4,aM.trans p4⟩) (λd=>?_)⟩
 have vb:=zQs d
 rw[if_neg (by omega)]at eA
 have c1:=(b1 p4).1
 have c2:=(b2 p4).1
 rw[xZm]at c1 c2
 refine⟨_,c1,_,c2,Br.of (λd=>⟨⟨none,0,0⟩,by rw[eA,if_pos (.inl (zQ5 d))],by rw[eA,if_pos (.inl (zQ5 d))];exact zVb.nil w w4,aM.trans p4⟩) (λd=>⟨_,(b1 p4).2.1,_,(b2 p4).2.1,?_⟩)⟩
 have hpg:=zQs d
 refine(xQC (RdF.of (ha.fields.pu (aM.trans p4))) (RdF.of (hb.fields.pu (aM.trans p4)))).mono ?_
 rintro e w5 ⟨rfl,aV⟩
 have p5:=p4.trans aV
 refine⟨_,rfl,Br.of (λd=>⟨⟨none,0,0⟩,by rw[eA,if_pos (.inr (by simpa using d))],by rw[eA,if_pos (.inr (by simpa using d))];exact zVb.nil w w5,aM.trans p5⟩) (λd=>⟨_,(b1 p5).2.2,_,(b2 p5).2.2,_,w5,yYa _ _ _ _ _ _,?_⟩)⟩
 rw[if_neg (by rintro(h|h);exact h hpg;exact h (by simpa using d))]at eA
 have hla:=ha.recs.len
 have hlb:=hb.recs.len
 have ma:=(zWl va).2.2.1
 have mb:=(zWl vb).2.2.1
 refine zQ0 (max a.recs.length b.recs.length) (λk t w'=>t.2=(k:Int)/\zVb w2 w' t.1 (zWI a.recs b.recs k)/\Pu w2 w') ⟨rfl,zVb.nil w2 w5,p5⟩ ?_
 rintro k J ⟨t1,t2⟩ w6 hk ⟨ht,hr,hp⟩ hJ
 obtain rfl:t2=(k:Int):=ht
 have hr:zVb w2 w6 t1 (zWI a.recs b.recs k):=hr
 dsimp only
 refine Br.of (λd1=>zQf λw7 cK _=>?_) (λd1=>?_)
 ·have aG:k<max a.recs.length b.recs.length:=by have:=zQk d1;omega
  have p7:=hp.trans cK
  have mc:=hr.pu cK
  refine⟨_,(b1 p7).2.2,Br.of (λd2=>?_) (λd2=>⟨_,(b2 p7).2.2,Br.of (λd3=>?_) (λd3=>⟨_,(b1 p7).2.2,?_⟩)⟩)⟩
  ·exact zVp mc p7 (by omega) (λs' w' h1 h2=>hJ _ _ aG ⟨by dsimp only;omega,h1,h2⟩) (yJ1 aG (.inl (by have:=zQk d2;omega)))
  ·exact zVp mc p7 (by omega) (λs' w' h1 h2=>hJ _ _ aG ⟨by dsimp only;omega,h1,h2⟩) (yJ1 aG (.inr (by have:=zQk d3;omega)))
  have d2:=zQd d2
  have d3:=zQd d3
  obtain⟨x,hx⟩:=zQZ (show k<a.recs.length by omega)
  obtain⟨y,hy⟩:=zQZ (show k<b.recs.length by omega)
  obtain⟨p,sx,hpa,_,vx,x0,x1⟩:=yQz (ha.recs.pu (aM.trans p7)) hx
  obtain⟨q,sy,hqa,_,vy,y0,y1⟩:=yQz (hb.recs.pu (aM.trans p7)) hy
  have x00:=x0
  have y00:=y0
  rw[xZm]at x00 y00
  have hd:=xKO hx hy
  refine⟨p,hpa,by omega,by omega,_,x00,_,(b2 p7).2.2,q,hqa,by omega,by omega,_,y00,_,λw=>xXz under4 _ _ _ _ w,Br.of (λd4=>?_) (λd4=>?_)⟩
  ·exact zVp mc p7 (by omega) (λs' w' h1 h2=>hJ _ _ aG ⟨by dsimp only;omega,h1,h2⟩) (by rw[hd,decide_eq_false (by simpa using d4)];rfl)
  have d4:x.gone=y.gone:=by simpa using d4
  refine⟨_,(b1 p7).2.2,p,hpa,by omega,by omega,_,x1,_,(b2 p7).2.2,q,hqa,by omega,by omega,_,y1,(xQP (RdV.of vx) (RdV.of vy)).mono ?_⟩
  rintro e w8 ⟨rfl,bM⟩
  refine⟨_,rfl,Br.of (λd5=>?_) (λd5=>?_)⟩
  ·exact zVp (mc.pu bM) (p7.trans bM) (by omega) (λs' w' h1 h2=>hJ _ _ aG ⟨by dsimp only;omega,h1,h2⟩) (by rw[hd,decide_eq_true d4];simpa using d5)
  ·show J (t1,IntKind.i64.wrap ((k:Int)+1)) w8
   rw[zQa (by omega) (by omega)]
   refine hJ _ _ aG ⟨by dsimp only;omega,?_,p7.trans bM⟩
   dsimp only
   rw[xWm (by rw[hd,decide_eq_true d4];simpa using d5)]
   exact mc.pu bM
 ·have aG:k=max a.recs.length b.recs.length:=by have:=zQd d1;omega
  subst aG
  exact⟨t1,by rw[eA],by rw[eA];exact hr.low aM.size,aM.trans hp⟩
end Go.Proofs.YtaeecpjhfmcliaaGreatDoor
/- The log: a store in plain words: what each call tells, and what it leaves. No program in sight. No condition. -/
namespace Go.Proofs.YtaeecpjhfmcliaaGreatDoor
open Go.Sh Go.RowKit Tryz
structure Sto where
 t:Tbl
 lev:List Tbl
 done:List Tbl
def Sto.new(t:Tbl):Sto:=⟨t,[],[t]⟩
def Sto.last(σ:Sto):Tbl:=σ.done.getLast?.getD σ.t
def yQu(σ:Sto):Sto:=if σ.lev=[]/\σ.t ≠ σ.last then { σ with done:=σ.done ++ [σ.t] }else σ
def zVI(σ:Sto):Int:=if 8<=σ.lev.length then 3 else 0
def zKr(σ:Sto):Sto:=if 8<=σ.lev.length then σ else { σ with lev:=σ.lev ++ [σ.t] }
def zVe(σ:Sto):Int:=if σ.lev=[]then 9 else 0
def endS(σ:Sto):Sto:=if σ.lev=[]then σ else yQu { σ with lev:=σ.lev.dropLast }
def yQJ(σ:Sto):Sto:=if σ.lev=[]then σ else { σ with t:=σ.lev.getLast?.getD σ.t,lev:=σ.lev.dropLast }
def zZX(σ:Sto)(k:Int):Bool:=decide (1<=k) && decide (k<=σ.t.recs.length)
def yZO(σ:Sto)(l:List Rec):Sto:=yQu { σ with t:={ σ.t with recs:=l } }
def appC(σ:Sto)(r:Rec):Int:=if 300<=σ.t.recs.length then 3 else zQA σ.t.fields σ.t.page r
def putC(σ:Sto)(k:Int)(r:Rec):Int:=if zZX σ k then zQA σ.t.fields σ.t.page r else 4
def xQr(σ:Sto)(k:Int)(nm:ByteArray)(v:Val):Int:=match yWA σ.t.fields nm with
 | none=>4
 | some i=>if zZX σ k then(zKk (σ.t.fields.getD i default) σ.t.page v).2 else 4
def setS(σ:Sto)(k:Int)(nm:ByteArray)(v:Val):Sto:=match yWA σ.t.fields nm with
 | none=>σ
 | some i=>if zZX σ k/\(zKk (σ.t.fields.getD i default) σ.t.page v).2=0 then yZO σ (σ.t.recs.modify (k - 1).toNat λr=>{ r with v:=r.v.set i (zKk (σ.t.fields.getD i default) σ.t.page v).1 })else σ
def yKa:Tbl:=⟨0,[],[]⟩
def yXV(σ:Sto)(n:Int):Int:=if 0<=n/\n<σ.done.length then 0 else 1
def yXB(σ:Sto)(n:Int):Tbl:=if 0<=n/\n<σ.done.length then σ.done.getD n.toNat yKa else yKa
def zZF(σ:Sto):List Int:=zWI σ.last.recs σ.t.recs (max σ.last.recs.length σ.t.recs.length)
end Go.Proofs.YtaeecpjhfmcliaaGreatDoor
/- The log: numbers, sums and records as bytes; the first record of bytes. In plain words. No condition but those stated. -/
namespace Go.Proofs.YtaeecpjhfmcliaaGreatDoor
open Go.Sh Go.RowKit Tryz
def zZ5(n:Nat):Nat->List UInt8
 | 0=>[]
 | k+1=>UInt8.ofNat (n % 256) :: zZ5 (n / 256) k
def zQL:List UInt8->Nat
 | []=>0
 | c :: l=>c.toNat+256 * zQL l
theorem zQx:∀(n k:Nat),(zZ5 n k).length=k
 | _,0=>rfl
 | n,k+1=>by simp[zZ5,zQx (n / 256) k]
theorem zZQ:∀(n k:Nat),zQL (zZ5 n k)=n % 256 ^ k
 | n,0=>by simp[zZ5,zQL,Nat.mod_one]
 | n,k+1=>by
  have h1:(UInt8.ofNat (n % 256)).toNat=n % 256:=by rw[UInt8.toNat_ofNat'];exact Nat.mod_eq_of_lt (Nat.lt_of_lt_of_le (Nat.mod_lt _ (by decide)) (by decide))
  rw[zZ5,zQL,zZQ,h1,Nat.pow_succ,Nat.mul_comm (256 ^ k) 256,Nat.mod_mul]
def yWm(n:Nat)(c:UInt8):Nat:=(n * 16777619 % 4294967296) ^^^ c.toNat
theorem xQK(n:Nat)(c:UInt8):yWm n c<4294967296:=by
 have h1:n * 16777619 % 4294967296<2 ^ 32:=Nat.mod_lt _ (by decide)
 have h2:c.toNat<2 ^ 32:=Nat.lt_of_lt_of_le c.toNat_lt (by decide)
 exact Nat.xor_lt_two_pow h1 h2
def yQl(l:List UInt8):Nat:=l.foldl yWm 7
theorem yZw(l:List UInt8):yQl l<4294967296:=by
 have key:∀(l:List UInt8) (n:Nat),n<4294967296->l.foldl yWm n<4294967296:=λl=>by
  induction l with
  | nil=>exact λn h=>h
  | cons c l ih=>exact λn h=>ih _ (xQK n c)
 exact key l 7 (by decide)
def zJ3(kind:UInt8)(body:List UInt8):List UInt8:=kind :: (zZ5 body.length 4 ++ body)
def zJ1(kind:UInt8)(body:List UInt8):List UInt8:=zJ3 kind body ++ zZ5 (yQl (zJ3 kind body)) 4
theorem zKH(k:UInt8)(b:List UInt8):(zJ3 k b).length=5+b.length:=by simp[zJ3,zQx];omega
theorem zKd(k:UInt8)(b:List UInt8):(zJ1 k b).length=9+b.length:=by simp[zJ1,zKH,zQx];omega
def zZm(b:List UInt8):Option (UInt8 × List UInt8 × List UInt8):=
 if b.length<9 then none
 else if b.length<zQL ((b.drop 1).take 4)+9 then none
 else if zQL ((b.drop (5+zQL ((b.drop 1).take 4))).take 4) ≠ yQl (b.take (5+zQL ((b.drop 1).take 4)))then none
 else some (b.headD 0,(b.drop 5).take (zQL ((b.drop 1).take 4)),b.drop (9+zQL ((b.drop 1).take 4)))
theorem yQw {b more body:List UInt8} {k:UInt8} (h:zZm b=some (k,body,more)):more.length<b.length:=by
 unfold zZm at h
 split at h
 ·cases h
 split at h
 ·cases h
 split at h
 ·cases h
 simp only[Option.some.injEq,Prod.mk.injEq]at h
 rw[←h.2.2,List.length_drop]
 omega
theorem yX4(k:UInt8)(body rest:List UInt8):zJ1 k body ++ rest=k :: (zZ5 body.length 4 ++ (body ++ (zZ5 (yQl (zJ3 k body)) 4 ++ rest))):=by simp[zJ1,zJ3]
theorem yJ7{k:UInt8}{body rest:List UInt8}(hb:body.length<4294967296):zQL (((zJ1 k body ++ rest).drop 1).take 4)=body.length:=by
 rw[yX4,List.drop_succ_cons,List.drop_zero,List.take_append_of_le_length (by rw[zQx];omega),List.take_of_length_le (by rw[zQx];omega),zZQ]
 exact Nat.mod_eq_of_lt hb
theorem yVE{k:UInt8}{body rest:List UInt8}(hb:body.length<4294967296):zZm (zJ1 k body ++ rest)=some (k,body,rest):=by
 have hl:(zJ1 k body ++ rest).length=9+body.length+rest.length:=by rw[List.length_append,zKd]
 have h5:(zJ1 k body ++ rest).drop (5+body.length)=zZ5 (yQl (zJ3 k body)) 4 ++ rest:=by
  rw[zJ1,List.append_assoc,show 5+body.length=(zJ3 k body).length from(zKH _ _).symm,List.drop_left]
 have t5:(zJ1 k body ++ rest).take (5+body.length)=zJ3 k body:=by
  rw[zJ1,List.append_assoc,show 5+body.length=(zJ3 k body).length from(zKH _ _).symm,List.take_left]
 have d9:(zJ1 k body ++ rest).drop (9+body.length)=rest:=by
  rw[show 9+body.length=(zJ1 k body).length from(zKd _ _).symm,List.drop_left]
 have b5:((zJ1 k body ++ rest).drop 5).take body.length=body:=by
  rw[yX4]
  have e:k :: (zZ5 body.length 4 ++ (body ++ (zZ5 (yQl (zJ3 k body)) 4 ++ rest)))=(k :: zZ5 body.length 4) ++ (body ++ (zZ5 (yQl (zJ3 k body)) 4 ++ rest)):=rfl
  rw[e,show 5=(k :: zZ5 body.length 4).length by simp[zQx],List.drop_left,List.take_left]
 unfold zZm
 rw[yJ7 hb,if_neg (by omega),if_neg (by omega),h5,t5,d9,b5,List.take_append_of_le_length (by rw[zQx];omega),List.take_of_length_le (by rw[zQx];omega),zZQ,
  Nat.mod_eq_of_lt (show yQl (zJ3 k body)<256 ^ 4 from yZw _),if_neg (by simp)]
 rfl
theorem yKX {k:UInt8} {body p:List UInt8} (hb:body.length<4294967296) (hp:p <+: zJ1 k body) (hl:p.length<(zJ1 k body).length):zZm p=none:=by
 unfold zZm
 by_cases h9:p.length<9
 ·rw[if_pos h9]
 ·have hr:zQL ((p.drop 1).take 4)=body.length:=by
   obtain⟨q,hq⟩:=hp
   have h1:=yJ7 (k:=k) (rest:=[]) hb
   rw[List.append_nil,←hq,List.drop_append_of_le_length (by omega),List.take_append_of_le_length (by rw[List.length_drop];omega)]at h1
   exact h1
  rw[zKd]at hl
  rw[if_neg h9,hr,if_pos (by omega)]
end Go.Proofs.YtaeecpjhfmcliaaGreatDoor
/- Table: days and dates, in plain words. No condition. -/
namespace Go.Proofs.YtaeecpjhfmcliaaGreatDoor
def zJ0(y:Nat):Bool:=(decide (y % 4=0) && decide (y % 100 ≠ 0)) || decide (y % 400=0)
def zZS(y m:Nat):Nat:=if m=2 then(if zJ0 y then 29 else 28)else if m=4∨m=6∨m=9∨m=11 then 30 else 31
def zQu(y:Nat):Nat->Nat
 | 0=>0
 | m+1=>zQu y m+zZS y (m+1)
def zQt(y:Nat):Nat:=365 * (y - 1)+(y - 1) / 4 - (y - 1) / 100+(y - 1) / 400
def zQJ(y m d:Nat):Prop:=1<=y/\y<=9999/\1<=m/\m<=12/\1<=d/\d<=zZS y m
instance (y m d:Nat):Decidable (zQJ y m d):=by unfold zQJ;exact inferInstance
def zZf(y m d:Nat):Nat:=zQt y+zQu y (m - 1)+d
theorem zX5{y:Nat}(h:1<=y):zQt (y+1)=zQt y+(if zJ0 y then 366 else 365):=by
 obtain⟨k,rfl⟩:∃k,y=k+1:=⟨y - 1,by omega⟩
 unfold zQt zJ0
 simp only[Nat.add_sub_cancel]
 by_cases h1:(k+1) % 4=0 <;> by_cases h2:(k+1) % 100=0 <;> by_cases h3:(k+1) % 400=0 <;> simp[h1,h2,h3] <;> omega
theorem zZ0(y:Nat):zQu y 12=if zJ0 y then 366 else 365:=by
 simp only[zQu,zZS]
 cases zJ0 y <;> rfl
theorem zX4(y:Nat):∀{a b:Nat},a<=b->zQu y a<=zQu y b:=by
 intro a b h
 induction h with
 | refl=>exact Nat.le_refl _
 | step _ ih=>exact Nat.le_trans ih (by simp[zQu])
theorem zX7{a b:Nat}(h0:1<=a)(h:a<=b):zQt a<=zQt b:=by
 induction h with
 | refl=>exact Nat.le_refl _
 | step h ih=>exact Nat.le_trans ih (by rw[zX5 (Nat.le_trans h0 h)];omega)
theorem zQJ.month{y m d:Nat}(h:zQJ y m d):zQu y (m - 1)+d<=zQu y m:=by
 obtain⟨_,_,h3,_,_,h6⟩:=h
 obtain⟨k,rfl⟩:∃k,m=k+1:=⟨m - 1,by omega⟩
 simp only[zQu,Nat.add_sub_cancel]
 omega
theorem zQJ.year{y m d:Nat}(h:zQJ y m d):zQt y<zZf y m d/\zZf y m d<=zQt (y+1):=by
 have h1:=h.month
 have h2:=zX4 y h.2.2.2.1
 rw[zZ0,]at h2
 rw[zX5 h.1]
 have:=h.2.2.2.2.1
 unfold zZf
 omega
theorem yJ3{y m d y' m' d':Nat}(h:zQJ y m d)(h':zQJ y' m' d')(e:zZf y m d=zZf y' m' d'):y=y'/\m=m'/\d=d':=by
 have a:=h.year
 have a':=h'.year
 have ey:y=y':=by
  rcases Nat.lt_trichotomy y y' with hlt|rfl|hlt
  ·have:=zX7 (a:=y+1) (by omega) (show y+1<=y' by omega);omega
  ·rfl
  ·have:=zX7 (a:=y'+1) (by omega) (show y'+1<=y by omega);omega
 subst ey
 have b:=h.month
 have b':=h'.month
 unfold zZf at e
 have c:=h.2.2.2.2.1
 have c':=h'.2.2.2.2.1
 have c3:=h.2.2.1
 have zY:=h'.2.2.1
 have em:m=m':=by
  rcases Nat.lt_trichotomy m m' with hlt|rfl|hlt
  ·have:=zX4 y (show m<=m' - 1 by omega);omega
  ·rfl
  ·have:=zX4 y (show m'<=m - 1 by omega);omega
 subst em
 exact⟨rfl,rfl,by omega⟩
theorem zJY:zQt 10000=3652059:=by decide
theorem zYh{y:Nat}(h:1<=y):365 * (y - 1)<=zQt y/\zQt y<=366 * (y - 1):=by
 unfold zQt;omega
theorem yXi(y m:Nat):zQu y m<=31 * m:=by
 induction m with
 | zero=>simp[zQu]
 | succ m ih=>simp only[zQu,zZS];split <;> (try split) <;> omega
end Go.Proofs.YtaeecpjhfmcliaaGreatDoor
/- Table: days and dates, as both packages compute them. No condition. -/
namespace Go.Proofs.YtaeecpjhfmcliaaGreatDoor
open Go.Sh Go.RowKit Tryz
theorem yYv(a b:Int):(a == b)=decide (a=b):=by simp[BEq.beq]
theorem zKX(n k:Nat):((n:Int)).tmod (k:Int)=((n % k:Nat):Int):=by rw[Int.tmod_eq_emod_of_nonneg (by omega)];norm_cast
theorem zJV(n k:Nat):((n:Int)).tdiv (k:Int)=((n / k:Nat):Int):=by rw[Int.tdiv_eq_ediv_of_nonneg (by omega)];norm_cast
theorem leap_c(n:Nat)(w:World):Calls prog 239 #[.int .i64 (n:Int)] w λe w'=>e=.returned (.bool (zJ0 n))/\Pu w w':=by
 have e4:(n:Int).tmod 4=((n % 4:Nat):Int):=zKX n 4
 have ou:(n:Int).tmod 100=((n % 100:Nat):Int):=zKX n 100
 have ov:(n:Int).tmod 400=((n % 400:Nat):Int):=zKX n 400
 refine yJF _ w _ ⟨rfl,by decide,Br.of (λd=>⟨rfl,by decide,Br.of (λd1=>⟨?_,Pu.refl w⟩) (λd1=>⟨rfl,by decide,?_,Pu.refl w⟩)⟩) (λd=>⟨?_,Pu.refl w⟩)⟩
 ·have d:=zQC d;have d1:=zQ5 d1
  rw[show zJ0 n=true from by unfold zJ0;rw[decide_eq_true (show n % 4=0 by omega),decide_eq_true (show n % 100 ≠ 0 by omega)];rfl]
 ·have d:=zQC d;have d1:=zQs d1
  rw[yYv,show zJ0 n=decide (n % 400=0)from by unfold zJ0;rw[decide_eq_false (show ¬n % 100 ≠ 0 by omega),Bool.and_false,Bool.false_or]]
  congr 2;simp only[decide_eq_decide];omega
 ·have d:=zQm d
  rw[show zJ0 n=false from by unfold zJ0;rw[decide_eq_false (show ¬n % 4=0 by omega),decide_eq_false (show ¬n % 400=0 by omega)];rfl]
theorem s184:zXq prog 258=12:=by kernel_rfl
def md12:Array Value:=#[.int .i64 31,.int .i64 28,.int .i64 31,.int .i64 30,.int .i64 31,.int .i64 30,.int .i64 31,.int .i64 31,.int .i64 30,.int .i64 31,.int .i64 30,.int .i64 31]
theorem md_at{m:Nat}(h:1<=m/\m<=12):md12[m - 1]?=some (.int .i64 ((if m=2 then 28 else if m=4∨m=6∨m=9∨m=11 then 30 else 31:Nat):Int)):=by
 rcases(by omega:m=1∨m=2∨m=3∨m=4∨m=5∨m=6∨m=7∨m=8∨m=9∨m=10∨m=11∨m=12)with rfl|rfl|rfl|rfl|rfl|rfl|rfl|rfl|rfl|rfl|rfl|rfl <;> rfl
theorem zJd(y m:Nat)(h:1<=m/\m<=12)(w:World):Calls prog 236 #[.int .i64 (y:Int),.int .i64 (m:Int)] w λe w'=>e=.returned (.int .i64 (zZS y m:Nat))/\Pu w w':=by
 refine yW9 _ _ w _ (zYt rfl s184.symm rfl λw1 ax _ aE=>?_)
 rw[zQa (n:=(m:Int) - 1) (by omega) (by omega)]
 have em:((m:Int) - 1).toNat * 1=m - 1:=by omega
 have hc:∀{wz:World},Pu w1 wz->wz.cell? ((⟨w.heap.size,0,none⟩:Addr).add (((m:Int) - 1).toNat * 1))=some (.int .i64 ((if m=2 then 28 else if m=4∨m=6∨m=9∨m=11 then 30 else 31:Nat):Int)):=λ{wz} hz=>by
  rw[em,cl (hz.blk aE)];exact md_at h
 refine Br.of (λd=>(leap_c y w1).mono ?_) (λd=>⟨by omega,by omega,_,hc (Pu.refl _),?_,ax⟩)
 ·have d:=zQC d
  have d:m=2:=by omega
  rintro e w2 ⟨rfl,ar⟩
  refine⟨_,rfl,Br.of (λd1=>⟨?_,ax.trans ar⟩) (λd1=>⟨by omega,by omega,_,hc ar,?_,ax.trans ar⟩)⟩
  ·unfold zZS;rw[if_pos d,if_pos d1];rfl
  ·unfold zZS;rw[if_pos d,if_pos d,if_neg (by rw[d1];simp)]
 ·have d:=zQm d
  have d:¬m=2:=by omega
  unfold zZS;rw[if_neg d,if_neg d]
theorem zKt(y:Nat)(h:1<=y/\y<=10000)(w:World):Calls prog 237 #[.int .i64 (y:Int)] w λe w'=>e=.returned (.int .i64 (zQt y:Nat))/\Pu w w':=by
 obtain⟨p,rfl⟩:∃p,y=p+1:=⟨y - 1,by omega⟩
 have e0:(((p+1:Nat):Int) - 1)=(p:Int):=by omega
 have e4:=zJV p 4
 have ou:=zJV p 100
 have ov:=zJV p 400
 refine yWq _ w _ ⟨rfl,by decide,rfl,by decide,rfl,by decide,?_,Pu.refl w⟩
 have e4:(p:Int).tdiv 4=((p / 4:Nat):Int):=e4
 have ou:(p:Int).tdiv 100=((p / 100:Nat):Int):=ou
 have ov:(p:Int).tdiv 400=((p / 400:Nat):Int):=ov
 rw[e0,zQa (n:=(p:Int)) (by omega) (by omega),e4,ou,ov,zQa (n:=((p / 4:Nat):Int)) (by omega) (by omega),zQa (n:=((p / 100:Nat):Int)) (by omega) (by omega),zQa (n:=((p / 400:Nat):Int)) (by omega) (by omega),zQa (n:=365 * (p:Int)) (by omega) (by omega),zQa (n:=365 * (p:Int)+_) (by omega) (by omega),zQa (n:=365 * (p:Int)+_ - _) (by omega) (by omega),zQa (by omega) (by omega)]
 unfold zQt
 rw[Nat.add_sub_cancel]
 congr 2
 omega
def yQv(y m d:Nat):Ending:=.returned (.tuple #[.int .i64 ((if zQJ y m d then zZf y m d else 0:Nat):Int),.int .i64 (if zQJ y m d then 0 else 1)])
theorem zVh(y m:Nat):zZS y m<=31/\28<=zZS y m:=by unfold zZS;split <;> (try split) <;> omega
theorem days_c(y m d:Nat)(w:World):Calls prog 226 #[.int .i64 (y:Int),.int .i64 (m:Int),.int .i64 (d:Int)] w λe w'=>e=yQv y m d/\Pu w w':=by
 have no:¬zQJ y m d->∀{w'},Pu w w'->zWH (λe w'=>e=yQv y m d/\Pu w w') (y:Int) (m:Int) (d:Int) true [] w':=λh w' hp=>Br.t rfl ⟨by unfold yQv;rw[if_neg h,if_neg h];rfl,hp⟩
 refine yJI _ _ _ w _ ?_
 refine Br.of (λd0=>no (λh=>by have:=h.1;have:=zQk d0;omega) (Pu.refl w)) (λd0=>Br.of (λd1=>no (λh=>by have:=h.2.1;have:=zQk d1;omega) (Pu.refl w)) (λd1=>Br.of (λd2=>no (λh=>by have:=h.2.2.1;have:=zQk d2;omega) (Pu.refl w)) (λd2=>Br.of (λd3=>no (λh=>by have:=h.2.2.2.1;have:=zQk d3;omega) (Pu.refl w)) (λd3=>Br.of (λd4=>no (λh=>by have:=h.2.2.2.2.1;have:=zQk d4;omega) (Pu.refl w)) (λd4=>?_)))))
 have d0:=zQd d0
 have d1:=zQd d1
 have d2:=zQd d2
 have d3:=zQd d3
 have d4:=zQd d4
 refine(zJd y m (by omega) w).mono ?_
 rintro e w1 ⟨rfl,ax⟩
 refine⟨_,rfl,?_⟩
 by_cases hd:d<=zZS y m
 ·have hD:zQJ y m d:=⟨by omega,by omega,by omega,by omega,by omega,hd⟩
  have hml:=zVh y m
  rw[decide_eq_false (by omega)]
  refine Br.f rfl ((zKt y (by omega) w1).mono ?_)
  rintro e w2 ⟨rfl,ar⟩
  have hyl:=zYh (y:=y) (by omega)
  refine⟨_,rfl,?_⟩
  rw[zQa (n:=((zQt y:Nat):Int)+(d:Int)) (by omega) (by omega),zQa (n:=(m:Int) - 1) (by omega) (by omega)]
  refine zQ0 (m - 1) (λk t w'=>t.2=(k:Int)/\t.1=((zQt y+d+zQu y k:Nat):Int)/\Pu w w') ⟨rfl,by simp[zQu],ax.trans ar⟩ ?_
  rintro k J ⟨t1,t2⟩ w3 hk ⟨h2,h1,hp⟩ hJ
  obtain rfl:t2=(k:Int):=h2
  obtain rfl:t1=((zQt y+d+zQu y k:Nat):Int):=h1
  dsimp only
  refine Br.of (λd5=>?_) (λd5=>?_)
  ·have aG:k<m - 1:=by have:=zQk d5;omega
   rw[zQa (n:=(k:Int)+1) (by omega) (by omega)]
   refine(zJd y (k+1) (by omega) w3).mono ?_
   rintro e w4 ⟨rfl,aJ⟩
   have hmf:=yXi y k
   have hmd:=zVh y (k+1)
   refine⟨_,rfl,?_⟩
   rw[zQa (by omega) (by omega)]
   refine hJ _ _ aG ⟨by dsimp only;omega,?_,hp.trans aJ⟩
   dsimp only[zQu];omega
  ·have aG:k=m - 1:=by have:=zQd d5;omega
   subst aG
   refine⟨?_,hp⟩
   unfold yQv zZf;rw[if_pos hD,if_pos hD,show zQt y+d+zQu y (m - 1)=zQt y+zQu y (m - 1)+d by omega]
 ·rw[decide_eq_true (by omega)]
  exact no (λh=>hd h.2.2.2.2.2) ax
theorem xKY(n:Nat)(h:1<=n/\n<=3652059)(w:World):Calls prog 234 #[.int .i64 (n:Int)] w λe w'=>∃y m d:Nat,zQJ y m d/\zZf y m d=n/\e=.returned (.tuple #[.int .i64 (y:Int),.int .i64 (m:Int),.int .i64 (d:Int),.int .i64 0])/\Pu w w':=by
 refine yK5 _ w _ ((yZi (n:Int) w).mono ?_)
 rintro e w1 ⟨rfl,ax⟩
 rw[decide_eq_true (show(0:Int)<=n by omega),decide_eq_true (show(n:Int)<=3652059 by omega)]
 refine⟨_,rfl,Br.f rfl (Br.of (λd=>absurd (zQC d) (by omega)) (λd=>⟨rfl,by decide,?_⟩))⟩
 rw[show((n:Int).tdiv 366)=((n / 366:Nat):Int)from zJV n 366,zQa (n:=((n / 366:Nat):Int)) (by omega) (by omega),zQa (by omega) (by omega)]
 have y0:zQt (n / 366+1)<n:=by unfold zQt;rw[Nat.add_sub_cancel];omega
 have hend:=zJY
 refine zQ0 10000 (λk t w'=>t=((n / 366+1+k:Nat):Int)/\zQt (n / 366+1+k)<n/\Pu w w') ⟨by omega,y0,ax⟩ ?_
 rintro k J t w2 hk ⟨ht,hy,hp⟩ hJ
 have hy9:n / 366+1+k<=9999:=by
  rcases Nat.lt_or_ge (n / 366+1+k) 10000 with h1|h1
  ·omega
  ·have:=zX7 (a:=10000) (by omega) h1;omega
 generalize hyy:n / 366+1+k=y at *
 obtain rfl:t=(y:Int):=ht
 refine(?_:yYw _ J _ _ _ _)
 show Calls prog 237 #[.int .i64 (IntKind.i64.wrap ((y:Int)+1))] w2 _
 rw[zQa (n:=(y:Int)+1) (by omega) (by omega)]
 refine(zKt (y+1) (by omega) w2).mono ?_
 rintro e w3 ⟨rfl,aA⟩
 refine⟨_,rfl,Br.of (λd1=>?_) (λd1=>?_)⟩
 ·have hlt:zQt (y+1)<n:=by have:=zQk d1;omega
  refine hJ _ _ (by omega) ⟨by omega,by rw[show n / 366+1+(k+1)=y+1 by omega];exact hlt,hp.trans aA⟩
 have hge:n<=zQt (y+1):=by have:=zQd d1;omega
 have y1:1<=y:=by omega
 refine(zKt y (by omega) w3).mono ?_
 rintro e w4 ⟨rfl,aJ⟩
 refine⟨_,rfl,?_⟩
 clear hJ J d1
 have hyl:=zYh y1
 rw[zQa (by omega) (by omega)]
 have hys:=zX5 y1
 have rT:=zZ0 y
 refine zQ0 11 (λk t w'=>t.2=((k+1:Nat):Int)/\t.1=((n - zQt y - zQu y k:Nat):Int)/\zQt y+zQu y k<n/\Pu w w') ⟨rfl,by simp[zQu];omega,by simp[zQu];omega,(hp.trans aA).trans aJ⟩ ?_
 rintro k2 J ⟨t1,t2⟩ w5 aG ⟨h2,h1,hlt,aV⟩ hJ
 obtain rfl:t2=((k2+1:Nat):Int):=h2
 obtain rfl:t1=((n - zQt y - zQu y k2:Nat):Int):=h1
 dsimp only
 refine(zJd y (k2+1) (by omega) w5).mono ?_
 rintro e w6 ⟨rfl,bV⟩
 have hml:=zVh y (k2+1)
 have hmf:zQu y (k2+1)=zQu y k2+zZS y (k2+1):=rfl
 refine⟨_,rfl,Br.of (λd1=>(zJd y (k2+1) (by omega) w6).mono ?_) (λd1=>?_)⟩
 ·rintro e w7 ⟨rfl,cK⟩
  have hgt:=zQk d1
  have k10:k2<11:=by
   rcases Nat.lt_or_ge k2 11 with h|h
   ·exact h
   ·exfalso
    have:k2=11:=by omega
    subst this
    have:zQu y 12=zQu y 11+zZS y 12:=rfl
    split at rT <;> split at hys <;> simp_all <;> omega
  refine⟨_,rfl,?_⟩
  rw[zQa (by omega) (by omega),zQa (by omega) (by omega)]
  refine hJ _ _ k10 ⟨by dsimp only;omega,by dsimp only;omega,by omega,(aV.trans bV).trans cK⟩
 ·have hle:=zQd d1
  refine⟨y,k2+1,n - zQt y - zQu y k2,⟨y1,hy9,by omega,by omega,by omega,by omega⟩,?_,rfl,aV.trans bV⟩
  unfold zZf;rw[Nat.add_sub_cancel];omega
end Go.Proofs.YtaeecpjhfmcliaaGreatDoor
/- Table: dates written and read by the reference; texts of dates. No condition. -/
namespace Go.Proofs.YtaeecpjhfmcliaaGreatDoor
open Go.Sh Go.RowKit Tryz
theorem zZt:∀(k n:Nat),n<10 ^ (k+1)->(zZr n).length<=k+1
 | 0,n,h=>by rw[zXG (by omega)];simp
 | k+1,n,h=>by
  by_cases h1:n<10
  ·rw[zXG h1];simp
  ·rw[zZn h1,List.length_append]
   have:=zZt k (n / 10) (by rw[Nat.pow_succ]at h;omega)
   simp;omega
def zJs(k n:Nat):List UInt8:=List.replicate (k - (zZr n).length) 48 ++ zZr n
theorem zXI {k n:Nat} (h:(zZr n).length<=k):(zJs k n).length=k:=by
 unfold zJs;rw[List.length_append,List.length_replicate];omega
theorem yQr (n k:Nat) (hn:n<=1000000) (hk:(zZr n).length<=k/\k<=1000) (w:World):Calls prog 235 #[.int .i64 (n:Int),.int .i64 (k:Int)] w λe w'=>e=.returned (.string (bs (zJs k n)))/\Pu w w':=by
 refine yW8 _ _ w _ ((dec_c (n:=(n:Int)) (by omega) (by omega) w).mono ?_)
 rintro e w1 ⟨rfl,ax⟩
 rw[zJX]
 refine⟨_,rfl,?_⟩
 rw[zQ3,zQa (by omega) (by omega),show(k:Int) - ((zZr n).length:Nat)=((k - (zZr n).length:Nat):Int)by omega]
 refine(zKe 48 _ (by omega) w1).mono ?_
 rintro e w2 ⟨rfl,ar⟩
 refine⟨_,rfl,by rw[zQ3,List.length_replicate];omega,?_,ax.trans ar⟩
 rw[zZM,zQH,zQH];rfl
open Classical in
def zJI(n:Int):List UInt8:=if n=0 then List.replicate 8 32 else
 if h:∃p:Nat × Nat × Nat,zQJ p.1 p.2.1 p.2.2/\(zZf p.1 p.2.1 p.2.2:Int)=n then zJs 4 h.choose.1 ++ zJs 2 h.choose.2.1 ++ zJs 2 h.choose.2.2 else []
theorem yY9{y m d:Nat}(h:zQJ y m d):1<=zZf y m d:=by have:=h.year;omega
theorem zJk:zJI 0=List.replicate 8 32:=by unfold zJI;rw[if_pos rfl]
theorem zKv{y m d:Nat}(h:zQJ y m d):zJI (zZf y m d:Nat)=zJs 4 y ++ zJs 2 m ++ zJs 2 d:=by
 have hp:=yY9 h
 have hx:∃p:Nat × Nat × Nat,zQJ p.1 p.2.1 p.2.2/\(zZf p.1 p.2.1 p.2.2:Int)=(zZf y m d:Nat):=⟨(y,m,d),h,rfl⟩
 unfold zJI
 rw[if_neg (by omega),dif_pos hx]
 obtain⟨h1,h2⟩:=hx.choose_spec
 obtain⟨e1,e2,e3⟩:=yJ3 h1 h (by omega)
 rw[e1,e2,e3]
theorem zVP{y m d:Nat}(h:zQJ y m d):((zZr y).length<=4/\y<=1000000)/\((zZr m).length<=2/\m<=1000000)/\((zZr d).length<=2/\d<=1000000):=by
 obtain⟨h1,h2,h3,h4,h5,h6⟩:=h
 have:=zVh y m
 exact⟨⟨zZt 3 y (by omega),by omega⟩,⟨zZt 1 m (by omega),by omega⟩,⟨zZt 1 d (by omega),by omega⟩⟩
theorem zWv{y m d:Nat}(h:zQJ y m d):(zJs 4 y ++ zJs 2 m ++ zJs 2 d).length=8:=by
 obtain⟨a,b,c⟩:=zVP h
 rw[List.length_append,List.length_append,zXI a.1,zXI b.1,zXI c.1]
theorem xWj(n:Int)(h:0<=n/\n<=3652059)(w:World):Calls prog 212 #[.int .i64 n] w λe w'=>e=.returned (.tuple #[.string (bs (zJI n)),.int .i64 0])/\(zJI n).length=8/\Pu w w':=by
 refine yKj _ w _ ((yZi n w).mono ?_)
 rintro e w1 ⟨rfl,ax⟩
 rw[decide_eq_true h.1,decide_eq_true h.2]
 refine⟨_,rfl,Br.f rfl (Br.of (λd=>⟨?_,?_,ax⟩) (λd=>?_))⟩
 ·rw[zQC d,zJk];rfl
 ·rw[zQC d,zJk];rfl
 have mg:=zQm d
 clear d
 obtain⟨k,rfl⟩:∃k:Nat,n=(k:Int):=⟨n.toNat,by omega⟩
 refine yWx _ w1 _ ((xKY k (by omega) w1).mono ?_)
 rintro e w2 ⟨y,m,d,hD,rfl,rfl,ar⟩
 obtain⟨a,b,c⟩:=zVP hD
 refine⟨_,_,_,_,rfl,(yQr y 4 a.2 ⟨a.1,by omega⟩ w2).mono ?_⟩
 rintro e w3 ⟨rfl,aA⟩
 refine⟨_,rfl,(yQr m 2 b.2 ⟨b.1,by omega⟩ w3).mono ?_⟩
 rintro e w4 ⟨rfl,aJ⟩
 refine⟨_,rfl,by rw[zQ3,zQ3,zXI a.1,zXI b.1];omega,(yQr d 2 c.2 ⟨c.1,by omega⟩ w4).mono ?_⟩
 rintro e w5 ⟨rfl,aV⟩
 have e1:bs (zJs 4 y) ++ bs (zJs 2 m)=bs (zJs 4 y ++ zJs 2 m):=by rw[zZM,zQH,zQH]
 refine⟨_,rfl,by rw[e1,zQ3,zQ3,List.length_append,zXI a.1,zXI b.1,zXI c.1];omega,?_⟩
 rw[e1,zZM,zQH,zQH,zKv hD]
 exact⟨_,rfl,rfl,zWv hD,(((ax.trans ar).trans aA).trans aJ).trans aV⟩
end Go.Proofs.YtaeecpjhfmcliaaGreatDoor
/- Table: how values are written in fields, by both packages. No condition. -/
namespace Go.Proofs.YtaeecpjhfmcliaaGreatDoor
open Go.Sh Go.RowKit Tryz
theorem zZz{s:ByteArray}(h:s.size=0):s=⟨#[]⟩:=by
 obtain⟨⟨l⟩⟩:=s
 cases l with
 | nil=>rfl
 | cons a l=>simp[ByteArray.size]at h
inductive zWS (f:Fld) (p:Int) (v:Val):Prop
 | nil (hv:v=noV) (hn:f.null=true)
 | truth (hk:f.kind=1) (hw:f.width=1) (hv:v=⟨1,v.n,⟨#[]⟩⟩) (hn:v.n=0∨v.n=1)
 | num (hk:f.kind=2) (hw:1<=f.width/\f.width<=15) (hv:v=⟨2,v.n,⟨#[]⟩⟩) (hn:-1000000000000000<=v.n/\v.n<=1000000000000000) (hl:((zZ7 v.n).length:Int)<=f.width)
 | date (hk:f.kind=3) (hw:f.width=8) (hv:v=⟨3,v.n,⟨#[]⟩⟩) (hn:0<=v.n/\v.n<=3652059)
 | text (hk:f.kind=4) (hw:1<=f.width/\f.width<=254) (hv:v=⟨4,0,v.s⟩) (hl:(v.s.size:Int)<=f.width) (hb:zZo v.s.data.toList=v.s.data.toList) (ht:zXM v.s.data.toList p=true)
 | memo (hk:f.kind=5) (hw:f.width=8) (hv:v=⟨2,v.n,⟨#[]⟩⟩) (hn:0<=v.n/\v.n<=99999999)
theorem yX7{f:Fld}(h:zQn f=true):(f.kind=1/\f.width=1)∨(f.kind=2/\1<=f.width/\f.width<=15)∨(f.kind=3/\f.width=8)∨(f.kind=4/\1<=f.width/\f.width<=254)∨(f.kind=5/\f.width=8):=by
 unfold zQn zKY at h
 simp only[Bool.and_eq_true]at h
 have h:=h.2
 split at h
 ·rename_i hk;simp at h;exact .inl ⟨hk,h⟩
 ·split at h
  ·rename_i hk;simp at h;exact .inr (.inl ⟨hk,h⟩)
  ·split at h
   ·rename_i hk;simp at h;exact .inr (.inr (.inl ⟨hk,h⟩))
   ·split at h
    ·rename_i hk;simp at h;exact .inr (.inr (.inr (.inl ⟨hk,h⟩)))
    ·split at h
     ·rename_i hk;simp at h;exact .inr (.inr (.inr (.inr ⟨hk,h⟩)))
     ·simp at h
theorem zWS.of{f:Fld}{p:Int}{v:Val}(hf:zQn f=true)(h:zQM f p v=true):zWS f p v:=by
 have hk:=yX7 hf
 have hv:zXc v=0:=by
  by_cases hv:zXc v=0
  ·exact hv
  ·unfold zQM at h;rw[if_pos hv]at h;cases h
 obtain⟨_,hok,hs⟩:=zKK hv
 unfold zQM at h
 rw[if_neg (by omega)]at h
 obtain⟨k,n,s⟩:=v
 simp only at *
 by_cases h0:k=0
 ·rw[if_pos h0]at h
  subst h0
  have hn:n=0:=by unfold okN at hok;rw[if_pos rfl]at hok;simpa using hok
  have hs:s=⟨#[]⟩:=zZz (by rcases hs with h|h;omega;exact h)
  subst hn hs
  exact .nil rfl h
 rw[if_neg h0]at h
 by_cases h5:f.kind=5
 ·rw[if_pos h5]at h
  have hw:f.width=8:=by omega
  simp only[Bool.and_eq_true,decide_eq_true_eq,zVc]at h
  obtain⟨rfl,h1,h2⟩:=h
  have hs:s=⟨#[]⟩:=zZz (by rcases hs with h|h;omega;exact h)
  subst hs
  exact .memo h5 hw rfl ⟨h1,h2⟩
 rw[if_neg h5]at h
 by_cases hkk:k ≠ f.kind
 ·rw[if_pos hkk]at h;cases h
 rw[if_neg hkk]at h
 have hkk:k=f.kind:=by omega
 rcases hk with⟨e,hw⟩|⟨e,hw⟩|⟨e,hw⟩|⟨e,hw⟩|⟨e,hw⟩
 ·rw[e]at hkk;subst hkk
  have hs:s=⟨#[]⟩:=zZz (by rcases hs with h|h;omega;exact h)
  subst hs
  unfold okN at hok
  rw[if_neg (by decide),if_pos rfl]at hok
  exact .truth e hw rfl (by simpa using hok)
 ·rw[e]at hkk;subst hkk
  have hs:s=⟨#[]⟩:=zZz (by rcases hs with h|h;omega;exact h)
  subst hs
  unfold okN at hok
  rw[if_neg (by decide),if_neg (by decide),if_pos rfl]at hok
  rw[if_pos e]at h
  exact .num e hw rfl (by simpa using hok) (by simpa using h)
 ·rw[e]at hkk;subst hkk
  have hs:s=⟨#[]⟩:=zZz (by rcases hs with h|h;omega;exact h)
  subst hs
  unfold okN at hok
  rw[if_neg (by decide),if_neg (by decide),if_neg (by decide),if_pos rfl]at hok
  exact .date e hw rfl (by simpa using hok)
 ·rw[e]at hkk;subst hkk
  rw[if_neg (by omega),if_pos e]at h
  unfold okN at hok
  rw[if_neg (by decide),if_neg (by decide),if_neg (by decide),if_neg (by decide),if_pos rfl]at hok
  simp only[Bool.and_eq_true,decide_eq_true_eq]at h hok
  subst hok
  exact .text e hw rfl h.1.1 h.1.2 h.2
 ·omega
def zQp(f:Fld)(v:Val):List UInt8:=
 if v.kind=0 then List.replicate f.width.toNat 32 else if f.kind=1 then [if v.n=1 then 84 else 70]else if f.kind=3 then zJI v.n
 else if f.kind=4 then zYB f v else if f.kind=5/\v.n=0 then List.replicate f.width.toNat 32 else List.replicate (f.width.toNat - (zZ7 v.n).length) 32 ++ zZ7 v.n
theorem zYg(f:Fld)(v:Val):zVu zQp f v=zQp f v:=by
 unfold zVu
 by_cases h:v.kind=0
 ·rw[if_pos h];unfold zQp;rw[if_pos h]
 ·rw[if_neg h]
theorem yVO{k:Nat}(h:1<=k/\k<=3652059):∃y m d,zQJ y m d/\zZf y m d=k:=by
 have hend:=zJY
 -- the year that holds the day
 have hy:∃y,1<=y/\y<=9999/\zQt y<k/\k<=zQt (y+1):=by
  have:∀j:Nat,j<=9999->k<=zQt (j+1)->∃y,1<=y/\y<=9999/\zQt y<k/\k<=zQt (y+1):=by
   intro j
   induction j with
   | zero=>intro _ hk;exfalso;have:zQt 1=0:=(by decide);simp only[Nat.zero_add]at hk;omega
   | succ j ih=>
    intro hj hk
    by_cases hlt:zQt (j+1)<k
    ·exact⟨j+1,by omega,hj,hlt,hk⟩
    ·exact ih (by omega) (by omega)
  exact this 9999 (by omega) (by show k<=zQt 10000;omega)
 obtain⟨y,y1,y9,ylt,yle⟩:=hy
 have hys:=zX5 y1
 have rT:=zZ0 y
 have hm:∃m,1<=m/\m<=12/\zQt y+zQu y (m - 1)<k/\k<=zQt y+zQu y m:=by
  have:∀j:Nat,j<=12->k<=zQt y+zQu y j->∃m,1<=m/\m<=12/\zQt y+zQu y (m - 1)<k/\k<=zQt y+zQu y m:=by
   intro j
   induction j with
   | zero=>intro _ hk;exfalso;simp only[zQu]at hk;omega
   | succ j ih=>
    intro hj hk
    by_cases hlt:zQt y+zQu y j<k
    ·exact⟨j+1,by omega,hj,by rw[Nat.add_sub_cancel];exact hlt,hk⟩
    ·exact ih (by omega) (by omega)
  exact this 12 (by omega) (by rw[rT];omega)
 obtain⟨m,m1,m12,mlt,mle⟩:=hm
 obtain⟨j,rfl⟩:∃j,m=j+1:=⟨m - 1,by omega⟩
 rw[Nat.add_sub_cancel]at mlt
 have hmf:zQu y (j+1)=zQu y j+zZS y (j+1):=rfl
 have hD:zQJ y (j+1) (k - zQt y - zQu y j):=⟨y1,y9,m1,m12,by omega,by omega⟩
 exact⟨y,j+1,k - zQt y - zQu y j,hD,by unfold zZf;rw[Nat.add_sub_cancel];omega⟩
theorem yK7{n:Int}(h:0<=n/\n<=3652059):(zJI n).length=8:=by
 by_cases h0:n=0
 ·rw[h0,zJk];rfl
 obtain⟨k,rfl⟩:∃k:Nat,n=(k:Int):=⟨n.toNat,by omega⟩
 obtain⟨y,m,d,hD,e⟩:=yVO (k:=k) (by omega)
 rw[←e,zKv hD]
 exact zWv hD
theorem zWS.len{f:Fld}{p:Int}{v:Val}(h:zWS f p v):(zQp f v).length=f.width.toNat:=by
 unfold zQp
 cases h with
 | nil hv hn=>rw[hv];simp[noV]
 | truth hk hw hv hn=>rw[hv,if_neg (by simp),if_pos hk,hw];rfl
 | num hk hw hv hn hl=>rw[hv]at *;dsimp only at *;rw[if_neg (by decide),if_neg (by omega),if_neg (by omega),if_neg (by omega),if_neg (by omega),List.length_append,List.length_replicate];omega
 | date hk hw hv hn=>rw[hv,if_neg (by simp),if_neg (by omega),if_pos hk,hw];exact yK7 hn
 | text hk hw hv hl hb ht=>rw[hv,if_neg (by simp),if_neg (by omega),if_neg (by omega),if_pos hk];unfold zYB;rw[List.length_append,zQy,List.length_replicate];dsimp only;omega
 | memo hk hw hv hn=>
  rw[hv]at *;dsimp only at *
  rw[if_neg (by decide),if_neg (by omega),if_neg (by omega),if_neg (by omega)]
  by_cases h0:v.n=0
  ·rw[if_pos ⟨hk,h0⟩,List.length_replicate]
  ·rw[if_neg (by simp[h0]),List.length_append,List.length_replicate]
   obtain⟨k,aG⟩:∃k:Nat,v.n=(k:Int):=⟨v.n.toNat,by omega⟩
   rw[aG,zJX]
   have:=zZt 7 k (by omega)
   omega
theorem zYN(f:Fld)(v:Val)(hw:1<=f.width/\f.width<=254)(hn:-1000000000000000<=v.n/\v.n<=1000000000000000)(w:World):Calls prog 182 #[yQ9 f,zWt v] w λe w'=>e=.returned (.string (bs (xQp v.n f.width)))/\Pu w w':=by
 refine yWp _ _ _ _ _ _ _ w _ (alB λw1 ax aE=>alB λw2 ar aN=>⟨_,cl aN 1,_,cl (ar.blk aE) 2,(str_c hn hw w2).mono ?_⟩)
 rintro e w3 ⟨rfl,aA⟩
 exact⟨_,_,rfl,rfl,(ax.trans ar).trans aA⟩
theorem yJn {n w:Int} (h:((zZ7 n).length:Int)<=w):xQp n w=List.replicate (w.toNat - (zZ7 n).length) 32 ++ zZ7 n:=by unfold xQp;rw[if_neg (by omega)]
theorem xWC{f:Fld}{p:Int}{v:Val}(h:zWS f p v)(h0:v.kind ≠ 0):∃K,zQU f.kind=some K/\zQv prog K.wr=true/\∀w,Calls prog K.wr #[yQ9 f,zWt v] w λe w'=>e=.returned (.string (bs (zQp f v)))/\Pu w w':=by
 cases h with
 | nil hv hn=>rw[hv]at h0;exact absurd rfl h0
 | truth hk hw hv hn=>
  refine⟨_,by rw[hk];rfl,by kernel_rfl,λw=>?_⟩
  refine yKE _ _ _ _ _ _ _ w _ (alB λw1 ax aE=>alB λw2 ar aN=>⟨_,cl aN 1,_,cl aN 1,?_⟩)
  have e:zQp f v=[if v.n=1 then 84 else 70]:=by unfold zQp;rw[if_neg h0,if_pos hk]
  rw[e]
  rcases hn with hn|hn
  ·rw[hn]
   rw[zQa (by decide) (by decide)]
   exact⟨by decide,by decide,by decide,by decide,rfl,ax.trans ar⟩
  ·rw[hn]
   rw[zQa (by decide) (by decide)]
   exact⟨by decide,by decide,by decide,by decide,rfl,ax.trans ar⟩
 | num hk hw hv hn hl=>
  refine⟨_,by rw[hk];rfl,by kernel_rfl,λw=>?_⟩
  have e:zQp f v=xQp v.n f.width:=by rw[yJn hl];unfold zQp;rw[if_neg h0,if_neg (by omega),if_neg (by omega),if_neg (by omega),if_neg (by omega)]
  rw[e]
  exact zYN f v ⟨hw.1,by omega⟩ hn w
 | date hk hw hv hn=>
  refine⟨_,by rw[hk];rfl,by kernel_rfl,λw=>?_⟩
  have e:zQp f v=zJI v.n:=by unfold zQp;rw[if_neg h0,if_neg (by omega),if_pos hk]
  rw[e]
  refine yKB _ _ _ _ _ _ _ w _ (alB λw1 ax aE=>alB λw2 ar aN=>⟨_,cl aN 1,(xWj v.n hn w2).mono ?_⟩)
  rintro e w3 ⟨rfl,_,aA⟩
  exact⟨_,_,rfl,rfl,(ax.trans ar).trans aA⟩
 | text hk hw hv hl hb ht=>
  refine⟨_,by rw[hk];rfl,by kernel_rfl,λw=>?_⟩
  have e:zQp f v=zYB f v:=by unfold zQp;rw[if_neg h0,if_neg (by omega),if_neg (by omega),if_pos hk]
  rw[e]
  exact yZ3 f v ⟨hl,by omega⟩ w
 | memo hk hw hv hn=>
  refine⟨_,by rw[hk];rfl,by kernel_rfl,λw=>?_⟩
  refine yWy _ _ _ _ _ _ _ w _ (alB λw1 ax aE=>alB λw2 ar aN=>⟨_,cl aN 1,Br.of (λd=>⟨_,cl (ar.blk aE) 2,?_⟩) (λd=>?_)⟩)
  ·rw[show(Value.int .i64 f.width)=.int .i64 ((8:Nat):Int)by rw[hw];rfl]
   refine(zKe 32 8 (by omega) w2).mono ?_
   rintro e w3 ⟨rfl,aA⟩
   refine⟨_,rfl,?_,(ax.trans ar).trans aA⟩
   have e:zQp f v=List.replicate 8 32:=by unfold zQp;rw[if_neg h0,if_neg (by omega),if_neg (by omega),if_neg (by omega),if_pos ⟨hk,zQC d⟩,hw];rfl
   rw[e]
  ·have d:=zQm d
   have q1:=ar.blk aE
   refine⟨_,cl q1 0,_,cl q1 1,_,cl q1 2,_,cl q1 3,_,cl aN 0,_,cl aN 1,_,cl aN 2,(zYN f v (by omega) (by omega) w2).mono ?_⟩
   rintro e w3 ⟨rfl,aA⟩
   refine⟨_,rfl,?_,(ax.trans ar).trans aA⟩
   have hl:((zZ7 v.n).length:Int)<=f.width:=by
    obtain⟨k,aG⟩:∃k:Nat,v.n=(k:Int):=⟨v.n.toNat,by omega⟩
    rw[aG,zJX]
    have:=zZt 7 k (by omega)
    omega
   have e:zQp f v=xQp v.n f.width:=by rw[yJn hl];unfold zQp;rw[if_neg h0,if_neg (by omega),if_neg (by omega),if_neg (by omega),if_neg (by simp[d])]
   rw[e]
def zXs(l:List Fld)(p:Int)(vs:List Val):Prop:=vs.length=l.length/\∀(i:Nat) (f:Fld) (v:Val),l[i]?=some f->vs[i]?=some v->zWS f p v
theorem zXs.of{l:List Fld}{p:Int}{r:Rec}(hl:l.all zQn=true)(h:zQA l p r=0):zXs l p r.v:=by
 obtain⟨h1,h2⟩:=zV2 h
 refine⟨h1,λi f v hf hv=>zWS.of (List.all_eq_true.1 hl f (List.mem_of_getElem? hf)) ?_⟩
 exact List.all_eq_true.1 h2 (f,v) (List.mem_of_getElem? (yV4 hf hv))
theorem zXs.writes{l:List Fld}{p:Int}{vs:List Val}(hl:l.all zQn=true)(h:zXs l p vs):yJr zQp l vs:=λi f v hf hv h0=>by
 have hr:=h.2 i f v hf hv
 refine⟨?_,xWC hr h0⟩
 rw[hr.len]
 have:=zXh (List.all_eq_true.1 hl f (List.mem_of_getElem? hf))
 omega
theorem zX2{l:List Fld}{p:Int}{vs:List Val}(hl:l.all zQn=true)(h:zXs l p vs):∀k,k<=l.length->((zX1 zQp (l.take k) (vs.take k)).length:Int)=((l.take k).map (·.width)).sum
 | 0,_=>by simp[zX1]
 | k+1,h1=>by
  obtain⟨f,hf⟩:=zQZ (show k<l.length by omega)
  obtain⟨v,hv⟩:=zQZ (show k<vs.length by have:=h.1;omega)
  rw[zKy hf hv,List.length_append,zKR hf,zYg,(h.2 k f v hf hv).len]
  have:=zX2 hl h k (by omega)
  have:=zXh (List.all_eq_true.1 hl f (List.mem_of_getElem? hf))
  omega
theorem zKa{l:List Fld}{p:Int}{r:Rec}(hl:l.all zQn=true)(h:zXs l p r.v):((zJm zQp l r).length:Int)=zX0 l:=by
 have h1:=zX2 hl h l.length (Nat.le_refl _)
 rw[List.take_length,List.take_of_length_le (by have:=h.1;omega)]at h1
 unfold zJm zX0
 rw[List.length_append,List.length_append,zW6,List.length_singleton]
 omega
theorem zXs.ne {l:List Fld} {p:Int} {vs:List Val} (hl:l.all zQn=true) (h:zXs l p vs) (h0:l ≠ []):zX1 zQp l vs ≠ []:=λe=>by
 have h1:=zX2 hl h l.length (Nat.le_refl _)
 rw[List.take_length,List.take_of_length_le (by have:=h.1;omega),e]at h1
 obtain⟨f,l',rfl⟩:=List.exists_cons_of_ne_nil h0
 simp only[List.map_cons,List.sum_cons,List.length_nil]at h1
 have hf:=zXh (List.all_eq_true.1 hl f (by simp))
 have:=zZD (l:=l') (WOk.of (List.all_eq_true.2 λg hg=>List.all_eq_true.1 hl g (by simp[hg])))
 omega
end Go.Proofs.YtaeecpjhfmcliaaGreatDoor
