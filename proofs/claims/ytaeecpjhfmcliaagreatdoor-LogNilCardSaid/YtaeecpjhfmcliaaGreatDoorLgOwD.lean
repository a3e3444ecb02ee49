import Derived.Test.YtaeecpjhfmcliaaGreatDoorLgOwC
import Derived.Test.YtaeecpjhfmcliaaGreatDoorLgPrA
/- Table: the bytes of a table; the law on them. No condition. -/
set_option maxRecDepth 100000
set_option linter.unusedVariables false
set_option linter.unusedSimpArgs false
noncomputable section
namespace Go.Proofs.YtaeecpjhfmcliaaGreatDoor
open Go.Sh Go.RowKit Tryz
def zQz(t:Tbl):List UInt8:=zKB t ++ t.recs.flatMap (zZI zQm t.fields) ++ [26]
def zJB(t:Tbl):List UInt8:=if zQh t=0 then zQz t else []
structure zJE(t:Tbl):Prop where
 page:zQY t.page=true
 vf:zQZ t.fields=0
 ne:t.fields ≠ []
 all:t.fields.all zQo=true
 n16:t.fields.length<=16
 w2:zXE t.fields<=2000
 m300:t.recs.length<=300
 recs:∀x ∈ t.recs,zXh t.fields t.page x.v
theorem zJE.of{t:Tbl}(h:zQh t=0):zJE t:=by
 obtain⟨hpg,hvf,gn,hfb⟩:=zKf h
 obtain⟨h0,hall,_,fv,hw⟩:=zXt hvf
 exact⟨hpg,hvf,h0,hall,fv,hw,gn,λx hx=>zXh.of hall (zZw hfb x hx)⟩
theorem zWr{t:Tbl}(h:zJE t):(zKB t).length=13+16 * t.fields.length:=by
 have:∀{l:List Fld},l.all zQo=true->(l.flatMap zQS).length=16 * l.length:=by
  intro l
  induction l with
  | nil=>intro _;rfl
  | cons f l ih=>
   intro hl
   rw[List.flatMap_cons,List.length_append,zZb (zQT (List.all_eq_true.1 hl f (by simp))).2.1,ih (List.all_eq_true.2 λg hg=>List.all_eq_true.1 hl g (by simp[hg])),List.length_cons]
   omega
 unfold zKB
 simp only[List.length_append,zXp,List.length_cons,List.length_nil,this h.all]
 omega
theorem zWs{t:Tbl}(h:zJE t):∀k,k<=t.recs.length->(((t.recs.take k).flatMap (zZI zQm t.fields)).length:Int)=k * zXE t.fields
 | 0,_=>by simp
 | k+1,hk=>by
  obtain⟨x,hx⟩:=zXf (show k<t.recs.length by omega)
  rw[zQK hx,List.flatMap_append,List.length_append,List.flatMap_cons,List.flatMap_nil,List.append_nil]
  have h1:=zWs h k (by omega)
  have h2:=zJ0 h.all (h.recs x (List.mem_of_getElem? hx))
  rw[Int.natCast_add,h1,h2,Int.natCast_add,Int.add_mul];omega
theorem yQf {α β:Type} (g:α->List β) {l:List α} {k:Nat} {x:α} (h:l[k]?=some x):(l.take (k+1)).flatMap g=(l.take k).flatMap g ++ g x:=by
 rw[zQK h,List.flatMap_append];simp
theorem yWn{t:Tbl}(h:zJE t)(k:Nat)(hk:k<=t.recs.length):((t.recs.take k).flatMap (zZI zQm t.fields)).length<=600000:=by
 have h1:=zWs h k hk
 have h2:=h.m300
 have h3:=h.w2
 have h4:(k:Int) * zXE t.fields<=300 * 2000:=by
  have hw:0<=zXE t.fields:=by have:=zZQ (WOk.of h.all);unfold zXE;omega
  exact Int.mul_le_mul (by omega) h3 hw (by omega)
 omega
theorem zV0{w:World}{t:Tbl}{f r:SV}(h:zXB w t f r)(ho:zJE t):Calls prog 123 #[zYq t f r] w λe w'=>∃q:SV,e=.returned (.slice q.a q.len q.cap)/\zQc w w' q (zQz t)/\Pu w w':=by
 have hm:=ho.m300
 have fv:=ho.n16
 have hrl:=h.recs.len
 have hh:=zWr ho
 refine yK1 _ _ _ w _ (alB λw1 aA aD=>⟨_,cl aD 0,_,cl aD 1,_,cl aD 2,(yYg (h.pu aA) ho.vf (by omega)).mono ?_⟩)
 rintro e w2 ⟨q,rfl,hq,ay⟩
 refine⟨q,rfl,_,cl (ay.blk aD) 2,?_⟩
 refine zQD t.recs.length (λk u w'=>u.2=(k:Int)/\zQc w1 w' u.1 (zKB t ++ (t.recs.take k).flatMap (zZI zQm t.fields))/\Pu w1 w') ⟨rfl,by simpa using hq,ay⟩ ?_
 rintro k J ⟨u1,u2⟩ w3 hk ⟨sT,hr,hp⟩ hJ
 obtain rfl:u2=(k:Int):=sT
 have hr:zQc w1 w3 u1 (zKB t ++ (t.recs.take k).flatMap (zZI zQm t.fields)):=hr
 have hrs:=yWn ho k hk
 dsimp only
 refine Br.of (λd=>?_) (λd=>?_)
 ·have aI:k<t.recs.length:=by have:=zQs d;omega
  obtain⟨x,hx⟩:=zXf aI
  have hR:=ho.recs x (List.mem_of_getElem? hx)
  obtain⟨a,s,ha,hi,hs,c0,c1⟩:=yQB (h.recs.pu (aA.trans hp)) hx
  refine⟨a,ha,by omega,by omega,_,c0,s,c1,zYj rfl s46.symm rfl λw4 aK qm cc=>⟨_,cl ((hp.trans aK).blk aD) 1,_,cl cc 0,s,cl cc 1,?_⟩⟩
  refine(row_c (sh:=zQm) (r:=x) (h.fields.pu (aA.trans (hp.trans aK))) (hs.pu aK) hR.1 fv (WOk.of ho.all) (hR.writes ho.all) (hR.ne ho.all ho.ne)).mono ?_
  rintro e w5 ⟨m,rfl,yq,ba⟩
  have hl5:=zJ0 ho.all hR
  have kL:=ho.w2
  obtain⟨q',w6,e6,r6,p6⟩:=((hr.pu aK).pu ba).cat ((hp.trans aK).trans ba) (m:=m) yq.len (λj b hj=>yq.cell hj) (by rw[List.length_append];omega)
  refine⟨m,rfl,q',w6,e6,?_⟩
  rw[zQa (by omega) (by omega)]
  refine hJ _ _ aI ⟨by dsimp only;omega,?_,p6⟩
  dsimp only
  rw[yQf _ hx,←List.append_assoc];exact r6
 ·have aI:k=t.recs.length:=by have:=zQj d;omega
  subst aI
  rw[List.take_length]at hr hrs
  refine alB λw4 aK cc=>?_
  obtain⟨q',w5,e5,r5,p5⟩:=(hr.pu aK).cat (hp.trans aK) (m:=⟨some ⟨w3.heap.size,0,none⟩,1,1⟩) (news:=[26]) rfl (yWd cc rfl) (by rw[List.length_append,List.length_singleton];omega)
  exact⟨q',w5,e5,q',rfl,r5.low aA.size,aA.trans p5⟩
theorem yYG{w:World}{t:Tbl}{f r:SV}(h:zXB w t f r)(hl:Lim.ok t.fields):Calls prog 86 #[zYq t f r] w λe w'=>∃q:SV,e=.returned (.tuple #[.slice q.a q.len q.cap,.int .i64 (zQh t)])/\zQc w w' q (zJB t)/\Pu w w':=by
 refine yKJ _ _ _ w _ (alB λw1 aA aD=>⟨_,cl aD 0,_,cl aD 1,_,cl aD 2,(zZ9 (h.pu aA) hl).mono ?_⟩)
 rintro e w2 ⟨rfl,ay⟩
 have b2:=ay.blk aD
 refine⟨_,rfl,Br.of (λd=>⟨⟨none,0,0⟩,rfl,by unfold zJB;rw[if_neg (zQG d)];exact zQc.nil w w2,aA.trans ay⟩) (λd=>?_)⟩
 have hv:=zQ4 d
 refine⟨_,cl b2 0,_,cl b2 1,_,cl b2 2,(zV0 (h.pu (aA.trans ay)) (zJE.of hv)).mono ?_⟩
 rintro e w3 ⟨q,rfl,hq,aC⟩
 exact⟨q,rfl,q,by rw[hv],by unfold zJB;rw[if_pos hv];exact hq.low (aA.trans ay).size,(aA.trans ay).trans aC⟩
end Go.Proofs.YtaeecpjhfmcliaaGreatDoor
/- Table: bytes that are handed in; parts of a row's bytes. No condition. -/
namespace Go.Proofs.YtaeecpjhfmcliaaGreatDoor
open Go.Sh Go.RowKit Tryz
theorem addr2(a:Addr)(i j:Nat):(a.add i).add j=a.add (i+j):=by
 unfold Addr.add
 by_cases hi:i=0
 ·subst hi;simp
 ·by_cases hj:j=0
  ·subst hj;simp[hi]
  ·simp[hi,hj,Nat.add_assoc]
structure ByV(w:World)(s:SV)(d:List UInt8):Prop where
 len:s.len=d.length
 cap:s.len<=s.cap
 lim:s.len<=140737488355328
 get:∀(j:Nat) (b:UInt8),d[j]?=some b->∃a,s.a=some a/\w.cell? (a.add (j * 1))=some (u8V b)
theorem ByV.pu{w w':World}{s:SV}{d:List UInt8}(h:ByV w s d)(hp:Pu w w'):ByV w' s d:=⟨h.len,h.cap,h.lim,λj b hj=>by
 obtain⟨a,h1,h2⟩:=h.get j b hj
 exact⟨a,h1,hp.cell h2⟩⟩
theorem ByV.of{w:World}{s:SV}{d:List UInt8}(h:zXV w s d):ByV w s d:=⟨h.len,h.cap,h.lim,λj b hj=>by
 obtain⟨a,h1,_,h2⟩:=h.u8 hj
 exact⟨a,h1,h2⟩⟩
theorem zQc.by{w0 w:World}{s:SV}{d:List UInt8}(h:zQc w0 w s d)(hb:d.length<=140737488355328):ByV w s d:=⟨h.len,h.1.le_cap.1,by have:=h.len;omega,λj b hj=>by
 obtain⟨a,h1,h2⟩:=h.cell hj
 exact⟨a,h1,by rw[Nat.mul_one];exact h2⟩⟩
theorem yWT {d:List UInt8} {lo n j:Nat} {b:UInt8} (h:((d.drop lo).take n)[j]?=some b):d[lo+j]?=some b:=by
 rw[List.getElem?_take]at h
 split at h
 ·rw[List.getElem?_drop]at h;exact h
 ·cases h
theorem ByV.sub{w:World}{s:SV}{d:List UInt8}(h:ByV w s d){lo hi:Nat}(h1:lo<=hi)(h2:hi<=d.length):ByV w ⟨if s.cap=lo then s.a else s.a.map (λx=>x.add (lo * 1)),hi - lo,s.cap - lo⟩ ((d.drop lo).take (hi - lo)):=by
 have hl:=h.len
 have hc:=h.cap
 have hm:=h.lim
 refine⟨by rw[List.length_take,List.length_drop];show hi - lo=_;omega,by show hi - lo<=s.cap - lo;omega,by show hi - lo<=_;omega,λj b hj=>?_⟩
 have jC:=yWT hj
 obtain⟨a,ha,hcell⟩:=h.get _ _ jC
 have hlt:=(List.getElem?_eq_some_iff.1 jC).1
 have pI:=(List.getElem?_eq_some_iff.1 hj).1
 rw[List.length_take,List.length_drop]at pI
 refine⟨a.add (lo * 1),?_,?_⟩
 ·show(if s.cap=lo then s.a else s.a.map (λx=>x.add (lo * 1)))=_
  rw[if_neg (by omega),ha];rfl
 ·rw[addr2,show lo * 1+j * 1=(lo+j) * 1 by omega];exact hcell
theorem ByV.part3{w:World}{s:SV}{d:List UInt8}(h:ByV w s d){lo hi:Nat}(h1:lo<=hi)(h2:hi<=d.length):∃l:SV,(Instr.sliceAt 22 (.slice s.a s.len s.cap) (some (.int .i64 (lo:Int))) (some (.int .i64 (hi:Int))) (some (.int .i64 (hi:Int)))).run prog w=.ok (.slice l.a l.len l.cap) w/\ByV w l ((d.drop lo).take (hi - lo)):=by
 have hl:=h.len
 have hc:=h.cap
 have hm:=h.lim
 have hs:(sizeOf 5).run prog w=.ok 1 w:=Tryz.sizeOf5 w
 refine⟨⟨if hi=lo then s.a else s.a.map (λx=>x.add (lo * 1)),hi - lo,hi - lo⟩,?_,by rw[List.length_take,List.length_drop];show hi - lo=_;omega,Nat.le_refl _,by show hi - lo<=_;omega,λj b hj=>?_⟩
 ·simp[Instr.sliceAt,zQg u37,Instr.slice,hs,Instr.sliceBounds,Instr.sliceBound,asIntOf,show hi<=s.cap by omega,h1]
 ·have jC:=yWT hj
  obtain⟨a,ha,hcell⟩:=h.get _ _ jC
  have pI:=(List.getElem?_eq_some_iff.1 hj).1
  rw[List.length_take,List.length_drop]at pI
  refine⟨a.add (lo * 1),?_,?_⟩
  ·show(if hi=lo then s.a else s.a.map (λx=>x.add (lo * 1)))=_
   rw[if_neg (by omega),ha];rfl
  ·rw[addr2,show lo * 1+j * 1=(lo+j) * 1 by omega];exact hcell
theorem yXD{w:World}{s:SV}{d:List UInt8}(h:ByV w s d):(convert 22 9 (.slice s.a s.len s.cap)).run prog w=.ok (.string (bs d)) w:=by
 have hl:=h.len
 rw[run_convert_bytes_string w 22 9 5 _ _ _ u37 u5 u9]
 cases ha:s.a with
 | none=>
  have hd:d=[]:=by
   cases d with
   | nil=>rfl
   | cons b d=>obtain⟨a,h1,_⟩:=h.get 0 b rfl;rw[ha]at h1;cases h1
  subst hd
  simp[Conv.bytesToString];rfl
 | some a=>
  have hld:(loadCells a s.len).run prog w=.ok ((d.map λb=>((b.toNat:Nat):Int)).map (Value.int .u8)).toArray w:=by
   have:=run_loadCells_list (P:=prog) w a ((d.map λb=>((b.toNat:Nat):Int)).map (Value.int .u8)) (λj v hj=>by
    simp only[List.getElem?_map,Option.map_map,Option.map_eq_some_iff]at hj
    obtain⟨b,hb,rfl⟩:=hj
    obtain⟨a',h1,h2⟩:=h.get j b hb
    rw[ha]at h1;cases h1
    rw[Nat.mul_one]at h2;exact h2)
   simpa[hl] using this
  rw[run_bytesToString w a s.len s.cap _ hld,foldl_push_bytes]
  congr 2
  apply zQM
  have e0:((⟨ByteArray.empty.data ++ (List.map (λn:Int=>UInt8.ofNat n.toNat) (d.map λb=>((b.toNat:Nat):Int))).toArray⟩:ByteArray)).data.toList=d.map ((λn:Int=>UInt8.ofNat n.toNat) ∘ λb=>((b.toNat:Nat):Int)):=by
   simp[ByteArray.empty,ByteArray.emptyWithCapacity];rfl
  refine e0.trans ?_
  show _=d
  conv=>rhs;rw[←List.map_id d]
  apply List.map_congr_left
  intro x _
  simp
def yWG(d:List UInt8):Nat:=d.foldr (λb a=>a * 256+b.toNat) 0
theorem zVf(b:UInt8)(d:List UInt8):yWG (b :: d)=yWG d * 256+b.toNat:=rfl
theorem yKY:∀d:List UInt8,yWG d<256 ^ d.length
 | []=>by simp[yWG]
 | b :: d=>by
  rw[zVf,List.length_cons,Nat.pow_succ]
  have:=yKY d
  have:=b.toNat_lt
  omega
theorem yYD{m:Nat}(h:m<4294967296):yWG (zWq m 4)=m:=by
 unfold zWq
 simp only[List.range,List.range.loop,List.map_cons,List.map_nil,zVf]
 have e:∀x:Nat,(UInt8.ofNat (x % 256)).toNat=x % 256:=λx=>by simp
 simp only[e,yWG,List.foldr_nil]
 omega
theorem or_low{a b:Nat}(ha:a<16777216)(hb:b<256):IntKind.i64.wrap ((BitVec.ofInt 64 (IntKind.i64.wrap ((a:Int) * 2 ^ 8)) ||| BitVec.ofInt 64 (IntKind.i64.wrap (b:Int))).toNat:Nat)=((a * 256+b:Nat):Int):=by
 rw[zQa (n:=(a:Int) * 2 ^ 8) (by omega) (by omega),zQa (n:=(b:Int)) (by omega) (by omega)]
 have e1:((a:Int) * 2 ^ 8)=((a * 256:Nat):Int):=by omega
 have e2:(BitVec.ofInt 64 ((a * 256:Nat):Int) ||| BitVec.ofInt 64 (b:Int)).toNat=a * 256+b:=by
  rw[BitVec.toNat_or]
  have h1:(BitVec.ofInt 64 ((a * 256:Nat):Int)).toNat=a * 256:=by rw[BitVec.ofInt_natCast,BitVec.toNat_ofNat];omega
  have h2:(BitVec.ofInt 64 (b:Int)).toNat=b:=by rw[BitVec.ofInt_natCast,BitVec.toNat_ofNat];omega
  rw[h1,h2]
  have:=Nat.shiftLeft_add_eq_or_of_lt (i:=8) (b:=b) (by omega) a
  rw[Nat.shiftLeft_eq]at this
  exact this.symm
 rw[e1,e2,zQa (by omega) (by omega)]
theorem yVM{w:World}{s:SV}{d:List UInt8}(h:ByV w s d)(h4:d.length=4):Calls prog 162 #[.slice s.a s.len s.cap] w λe w'=>e=.returned (.int .i64 (yWG d:Nat))/\Pu w w':=by
 refine yJ7 _ w _ ?_
 have hl:=h.len
 rw[yKM,zQa (by omega) (by omega)]
 refine zQD 4 (λk t w'=>t.1=(yWG (d.drop (4 - k)):Nat)/\t.2=3 - (k:Int)/\Pu w w') ⟨by rw[List.drop_eq_nil_of_le (by omega)];rfl,by dsimp only;omega,Pu.refl _⟩ ?_
 rintro k J ⟨t1,t2⟩ w2 hk ⟨h1,h2,hp⟩ hJ
 obtain rfl:t1=(yWG (d.drop (4 - k)):Nat):=h1
 obtain rfl:t2=3 - (k:Int):=h2
 dsimp only
 refine Br.of (λq=>?_) (λq=>?_)
 ·have aI:k<4:=by have:=zQs q;omega
  obtain⟨b,hb⟩:=zXf (l:=d) (k:=3 - k) (by omega)
  obtain⟨a,ha,hc⟩:=(h.pu hp).get _ _ hb
  have hlt:=yKY (d.drop (4 - k))
  rw[List.length_drop,h4]at hlt
  have wN:yWG (d.drop (4 - k))<16777216:=Nat.lt_of_lt_of_le hlt (by
   rcases(by omega:k=0∨k=1∨k=2∨k=3)with rfl|rfl|rfl|rfl <;> decide)
  have hbl:=b.toNat_lt
  refine⟨by omega,a,ha,by omega,by omega,_,by rw[show(3 - (k:Int)).toNat=3 - k by omega];exact hc,?_⟩
  rw[or_low wN hbl,zQa (by omega) (by omega)]
  refine hJ _ _ aI ⟨?_,by dsimp only;omega,hp⟩
  dsimp only
  rw[show 4 - (k+1)=3 - k by omega,zXG hb,zVf,show 3 - k+1=4 - k by omega]
 ·have aI:k=4:=by have:=zQj q;omega
  subst aI
  exact⟨rfl,hp⟩
theorem bit_p:∀x:Nat,x<256->∀r:Nat,r<8->((IntKind.u8.wrap ((BitVec.ofInt 8 (((x:Nat):Int).fdiv (2 ^ (min r 8))) &&& BitVec.ofInt 8 1).toNat:Nat)) == 1)=x.testBit r:=by decide +kernel
def sum8(c0 c1 c2 c3 c4 c5 c6 c7:Bool):Nat:=(if c0 then 2 ^ 0 else 0)+(if c1 then 2 ^ 1 else 0)+(if c2 then 2 ^ 2 else 0)+(if c3 then 2 ^ 3 else 0)+(if c4 then 2 ^ 4 else 0)+(if c5 then 2 ^ 5 else 0)+(if c6 then 2 ^ 6 else 0)+(if c7 then 2 ^ 7 else 0)
theorem yVW:∀c0 c1 c2 c3 c4 c5 c6 c7:Bool,∀r:Nat,r<8->(UInt8.ofNat (sum8 c0 c1 c2 c3 c4 c5 c6 c7)).toNat.testBit r=[c0,c1,c2,c3,c4,c5,c6,c7].getD r false:=by decide +kernel
theorem yJg(bits:List Bool)(q:Nat){r:Nat}(hr:r<8):(UInt8.ofNat (zXC bits q)).toNat.testBit r=decide (bits[8 * q+r]?=some true):=by
 have e:zXC bits q=sum8 (decide (bits[8 * q+0]?=some true)) (decide (bits[8 * q+1]?=some true)) (decide (bits[8 * q+2]?=some true)) (decide (bits[8 * q+3]?=some true)) (decide (bits[8 * q+4]?=some true)) (decide (bits[8 * q+5]?=some true)) (decide (bits[8 * q+6]?=some true)) (decide (bits[8 * q+7]?=some true)):=by
  unfold zXC sum8 zJc
  simp only[decide_eq_true_eq]
 rw[e,yVW _ _ _ _ _ _ _ _ r hr]
 rcases(by omega:r=0∨r=1∨r=2∨r=3∨r=4∨r=5∨r=6∨r=7)with rfl|rfl|rfl|rfl|rfl|rfl|rfl|rfl <;> rfl
def zXy(l:List Fld)(k:Nat):Nat:=((l.take k).filter (·.null)).length
theorem yZ1(l:List Fld)(k:Nat):zXy l k<=(l.filter (·.null)).length:=zXN l k
theorem zJN:∀{l:List Fld} {vs:List Val},vs.length=l.length->(zQV l vs).length=(l.filter (·.null)).length
 | [],_,_=>by simp[zQV]
 | f :: l,[],h=>by simp at h
 | f :: l,v :: vs,h=>by
  have ih:=zJN (l:=l) (vs:=vs) (by simpa using h)
  unfold zQV
  rw[List.filter_cons]
  by_cases hn:f.null=true
  ·rw[if_pos hn,if_pos hn];simp only[List.length_cons];omega
  ·rw[if_neg hn,if_neg hn];exact ih
theorem zVi:∀(l:List Fld) (vs:List Val) (k:Nat),zQV l vs=zQV (l.take k) (vs.take k) ++ zQV (l.drop k) (vs.drop k)
 | [],_,_=>by simp[zQV]
 | f :: l,[],k=>by
  have:zQV (f :: l) []=[]:=rfl
  rw[this]
  cases k with
  | zero=>simp[zQV]
  | succ k=>cases h:List.drop (k+1) (f :: l) <;> simp[zQV]
 | f :: l,v :: vs,0=>by simp[zQV]
 | f :: l,v :: vs,k+1=>by
  have ih:=zVi l vs k
  simp only[List.take_succ_cons,List.drop_succ_cons]
  have e1:zQV (f :: l) (v :: vs)=if f.null then decide (v.kind=0) :: zQV l vs else zQV l vs:=rfl
  have e2:zQV (f :: l.take k) (v :: vs.take k)=if f.null then decide (v.kind=0) :: zQV (l.take k) (vs.take k)else zQV (l.take k) (vs.take k):=rfl
  rw[e1,e2]
  split
  ·rw[ih];rfl
  ·exact ih
theorem yYB {l:List Fld} {vs:List Val} (hl:vs.length=l.length) {k:Nat} {f:Fld} {v:Val} (hf:l[k]?=some f) (hv:vs[k]?=some v) (hn:f.null=true):(zQV l vs)[zXy l k]?=some (decide (v.kind=0)):=by
 have hk:=(List.getElem?_eq_some_iff.1 hf).1
 have h1:(zQV (l.take k) (vs.take k)).length=zXy l k:=zJN (by rw[List.length_take,List.length_take];omega)
 rw[zVi l vs k,List.getElem?_append_right (by omega),h1,Nat.sub_self,zXG hf,zXG hv]
 unfold zQV;rw[if_pos hn];rfl
theorem yQi(sh:Fld->Val->List UInt8)(l:List Fld)(vs:List Val)(h:vs.length=l.length)(k:Nat):zXs sh l vs=zXs sh (l.take k) (vs.take k) ++ zXs sh (l.drop k) (vs.drop k):=by
 unfold zXs
 rw[←List.flatMap_append,←List.zip_append (by rw[List.length_take,List.length_take];omega),List.take_append_drop,List.take_append_drop]
theorem yVS {l:List Fld} {r:Rec} {d:List UInt8} (hd:zZI zQm l r=d) {b:UInt8} (hb:d[0]?=some b):b=yQv r.gone:=by
 rw[←hd]at hb
 unfold zZI at hb
 simpa using hb.symm
def zVR(l:List Fld)(k:Nat):Nat:=1+zXb l+((l.take k).map (λx:Fld=>x.width)).sum.toNat
theorem yYa {l:List Fld} {p:Int} {r:Rec} {d:List UInt8} (hall:l.all zQo=true) (hR:zXh l p r.v) (hd:zZI zQm l r=d) {k:Nat} {f:Fld} {v:Val} (hf:l[k]?=some f) (hv:r.v[k]?=some v):(d.drop (zVR l k)).take f.width.toNat=zQm f v:=by
 have hk:=(List.getElem?_eq_some_iff.1 hf).1
 have h1:=zXu hall hR k (by omega)
 have hw:=(hR.2 k f v hf hv).len
 rw[←hd]
 unfold zZI zVR
 have hlen:([yQv r.gone] ++ flN (zXb l) (zQV l r.v) ++ zXs zQm (l.take k) (r.v.take k)).length=1+zXb l+((l.take k).map (λx:Fld=>x.width)).sum.toNat:=by
  simp only[List.length_append,zKI,List.length_singleton];omega
 rw[yQi zQm l r.v hR.1 k,←List.append_assoc,List.drop_append,List.drop_eq_nil_of_le (by omega),hlen,Nat.sub_self,List.drop_zero,List.nil_append,zXG hf,zXG hv]
 unfold zXs
 rw[List.zip_cons_cons,List.flatMap_cons]
 dsimp only
 rw[zWX,List.take_append_of_le_length (by omega),List.take_of_length_le (by omega)]
theorem yZ0 {l:List Fld} {p:Int} {r:Rec} {d:List UInt8} (hR:zXh l p r.v) (hd:zZI zQm l r=d) {k:Nat} {f:Fld} {v:Val} (hf:l[k]?=some f) (hv:r.v[k]?=some v) (hn:f.null=true) {b:UInt8} (hb:d[1+zXy l k / 8]?=some b):b.toNat.testBit (zXy l k % 8)=decide (v.kind=0):=by
 have hc:=yYB hR.1 hf hv hn
 have hlt:=(List.getElem?_eq_some_iff.1 hc).1
 rw[zJN hR.1]at hlt
 have hq:zXy l k / 8<zXb l:=by unfold zXb;omega
 have e:b=UInt8.ofNat (zXC (zQV l r.v) (zXy l k / 8)):=by
  rw[←hd]at hb
  unfold zZI at hb
  rw[List.append_assoc,List.getElem?_append_right (by simp),List.getElem?_append_left (by simp[zKI];exact hq)]at hb
  simp only[List.length_singleton,Nat.add_sub_cancel_left]at hb
  rw[xZ2 hq]at hb
  exact(Option.some.inj hb).symm
 rw[e,yJg _ _ (Nat.mod_lt _ (by decide)),show 8 * (zXy l k / 8)+zXy l k % 8=zXy l k by omega,hc]
 simp
theorem zKM {l:List Fld} {k:Nat} {f:Fld} (hf:l[k]?=some f):zXy l (k+1)=if f.null then zXy l k+1 else zXy l k:=zWy hf
theorem yVa {l:List Fld} (hall:l.all zQo=true) {k:Nat} {f:Fld} (hf:l[k]?=some f):zVR l (k+1)=zVR l k+f.width.toNat:=by
 have h1:=zWo hf
 have h2:=zZQ ((WOk.of hall).take k)
 have h3:=WOk.of hall f (List.mem_of_getElem? hf)
 unfold zVR;rw[h1];omega
theorem xJm {l:List Fld} (hall:l.all zQo=true) {k:Nat} {f:Fld} (hf:l[k]?=some f):((zVR l k+f.width.toNat:Nat):Int)<=zXE l:=by
 have hk:=(List.getElem?_eq_some_iff.1 hf).1
 have h1:=zWo hf
 have h2:=zZQ ((WOk.of hall).take k)
 have h3:=WOk.of hall f (List.mem_of_getElem? hf)
 have h4:((l.take (k+1)).map (·.width)).sum<=(l.map (·.width)).sum:=by
  have e:l.map (·.width)=(l.take (k+1)).map (·.width) ++ (l.drop (k+1)).map (·.width):=by rw[←List.map_append,List.take_append_drop]
  have h5:=zZQ (l:=l.drop (k+1)) λg hg=>WOk.of hall g (List.mem_of_mem_drop hg)
  rw[e,List.sum_append];omega
 unfold zVR zXE;omega
end Go.Proofs.YtaeecpjhfmcliaaGreatDoor
/- Table: the program's reading of a row's bytes. No condition. -/
set_option maxHeartbeats 2000000
namespace Go.Proofs.YtaeecpjhfmcliaaGreatDoor
open Go.Sh Go.RowKit Tryz
def appV(aw:SV)(p6:Option Addr)(c:Array Value)(K:World->Prop)(w:World):Prop:=
 alE (.cells c 73) w λbx cy=>∃ax:SV,∃cS:World,(Builtin.append_ #[38,38] 38 #[.slice aw.a aw.len aw.cap,.slice (some ⟨bx,0,none⟩) 1 1]).run prog cy=.ok (.slice ax.a ax.len ax.cap) cS/\
 zQf p6 λkQ=>st1 (kQ.add 1) (.slice ax.a ax.len ax.cap) cS λdB=>K dB
def xJw(p6:Option Addr)(aB:Nat)(K:World->Prop)(w:World):Prop:=
 zQf p6 λkP=>∃aw:SV,w.cell? (kP.add 1)=some (.slice aw.a aw.len aw.cap)/\
 ∃ak:Int,w.cell? ((⟨aB,0,none⟩:Addr).add 0)=some (.int .i64 ak)/\
 ∃am:Int,w.cell? ((⟨aB,0,none⟩:Addr).add 1)=some (.int .i64 am)/\
 ∃ao:ByteArray,w.cell? ((⟨aB,0,none⟩:Addr).add 2)=some (.string ao)/\
 appV aw p6 #[.int .i64 ak,.int .i64 am,.string ao] K w
structure zVv(w0 wr:World)(r4 r6:Nat)(g:Bool)(vs:List Val)(w:World):Prop where
 ex:∃q:SV,w.heap[r6]?=some (.cells #[.bool g,.slice q.a q.len q.cap] 67)/\zJO wr w q vs
 b4:w.heap[r4]?=some (.cells #[.bool false,.slice none 0 0] 67)
 sz:wr.heap.size<=w.heap.size
 pu:Pu w0 w
 l4:r4<wr.heap.size
 l6:r6<wr.heap.size
 ne:r4 ≠ r6
 z4:w0.heap.size<=r4
 z6:w0.heap.size<=r6
theorem zVv.on{w0 wr w w':World}{r4 r6:Nat}{g:Bool}{vs:List Val}(h:zVv w0 wr r4 r6 g vs w)(hp:Pu w w'):zVv w0 wr r4 r6 g vs w':=by
 obtain⟨q,h1,h2⟩:=h.ex
 exact⟨⟨q,hp.blk h1,h2.pu hp⟩,hp.blk h.b4,Nat.le_trans h.sz hp.size,h.pu.trans hp,h.l4,h.l6,h.ne,h.z4,h.z6⟩
theorem xZg {w0 wr w:World} {r4 r6:Nat} {g:Bool} {vs:List Val} (h:zVv w0 wr r4 r6 g vs w) {q:SV} (h6:w.heap[r6]?=some (.cells #[.bool g,.slice q.a q.len q.cap] 67)) (hq:zJO wr w q vs) {v:Val} {c:Array Value} (hc:c=#[.int .i64 v.kind,.int .i64 v.n,.string v.s]) (hl:vs.length<=1000000) {K:World->Prop}
  (hK:∀w',zVv w0 wr r4 r6 g (vs ++ [v]) w'->K w'):appV q (some ⟨r6,0,none⟩) c K w:=by
 refine alB λw1 aA aD=>?_
 have h1:=h.on aA
 have z1:=aA.size
 have z:=h.sz
 obtain⟨q',w2,e2,r2,f2⟩:=(hq.pu aA).push (by omega) aD hc hl
 have n6:¬r6 ∈ zQb q:=λhc=>by have:=hq.2 _ hc;have:=h.l6;omega
 have n4:¬r4 ∈ zQb q:=λhc=>by have:=hq.2 _ hc;have:=h.l4;omega
 have b6:=f2.blk (aA.blk h6) n6
 have b4:=f2.blk h1.b4 n4
 refine⟨q',w2,e2,zQw (o:=1) b6 (by simp) λwx ex hbx=>?_⟩
 have fx:Fr (·=r6) w2 wx:=by rw[ex];exact Fr.cell w2 _ _ _
 have zx:wx.heap.size=w2.heap.size:=by rw[ex];simp
 have z2:=f2.size
 have h46:=h.ne
 have hz6:=h.z6
 have hl6:=h.l6
 have tT:=h.l4
 have yr:=h.z4
 refine hK wx ⟨⟨q',hbx,r2.fr fx λi hi=>by have:=r2.2 i hi;omega⟩,fx.blk b4 (by omega),by omega,?_,h.l4,h.l6,h.ne,h.z4,h.z6⟩
 have p2:Pu w0 w2:=h1.pu.andNew f2 λi hi=>by have:=hq.2 i hi;omega
 exact p2.andNew fx λi hi=>by omega
theorem yWM {w0 wr w:World} {r4 r6 aB:Nat} {g:Bool} {vs:List Val} (h:zVv w0 wr r4 r6 g vs w) {v:Val} (hv:w.heap[aB]?=some (.cells #[.int .i64 v.kind,.int .i64 v.n,.string v.s] 73)) (hl:vs.length<=1000000) {K:World->Prop}
  (hK:∀w',zVv w0 wr r4 r6 g (vs ++ [v]) w'->K w'):xJw (some ⟨r6,0,none⟩) aB K w:=by
 obtain⟨q,h6,hq⟩:=h.ex
 exact⟨q,cl h6 1,_,cl hv 0,_,cl hv 1,_,cl hv 2,xZg h h6 hq rfl hl hK⟩
def zJh(K:Bool->World->Prop)(p6:Option Addr)(b9 ok:Bool)(aB:Nat)(w:World):Prop:=Br b9 (xJw p6 aB (K ok) w) (xJw p6 aB (K false) w)
def yZj(K:Bool->World->Prop)(p6:Option Addr)(b9:Bool)(cg:Nat)(bp:SV)(w9:World):Prop:=
 dwE w9 λbK=>
 ∃S1:World->Prop,S1 bK/\
 ∃gB:Int,(∀w',S1 w'->w'.cell? ((⟨cg,0,none⟩:Addr).add 1)=some (.int .i64 gB))/\
 (
 Calls prog 145 #[] bK λe bA=>
 ∃cp:Option Nat,e=.returned (.map cp)/\
 ∃S2:World->Prop,S2 bA/\(∀u,S2 u->S1 u)/\
 ∃aU:Int,∃aV:Int,∃aX:Int,∃aY:Value,∃aE:Value,(∀w',S2 w'->(Instr.lookup 176 (.map cp) (.int .i64 gB) false).run prog w'=.ok (.agg #[.int .u8 aU,.int .i64 aV,.int .i64 aX,aY,aE]) w')/\
 (
 ∃bT:ByteArray,∃bY:World,(convert 22 9 (.slice bp.a bp.len bp.cap)).run prog bA=.ok (.string bT) bY/\
 ∃S3:World->Prop,S3 bY/\(∀u,S3 u->S2 u)/\
 (
 fnE aE λf75 first75 aH=>
 zQt prog f75=true/\Calls prog f75 (first75.toList ++ (([.string bT]:List Value) ++ aH.toList)).toArray bY λe ce=>
 ∃ah:Int,∃ai:Int,∃aj:ByteArray,∃au:Bool,e=.returned (.tuple #[.agg #[.int .i64 ah,.int .i64 ai,.string aj],.bool au])/\
 alE (.cells #[.int .i64 0,.int .i64 0,.string (⟨#[]⟩:ByteArray)] 73) ce λaB cf=>
 stA prog 73 (⟨aB,0,none⟩:Addr) #[.int .i64 ah,.int .i64 ai,.string aj] cf λbt=>
 zJh K p6 b9 au aB bt)/\(
 alE (.cells #[.int .i64 0,.int .i64 0,.string (⟨#[]⟩:ByteArray)] 73) bY λaB ft=>
 ∃S4:World->Prop,S4 ft/\(∀u,S4 u->S3 u)/\
 fnE aE λf75 first75 aH=>
 zQt prog f75=true/\Calls prog f75 (first75.toList ++ (([.string bT]:List Value) ++ aH.toList)).toArray ft λe iK=>
 ∃ah:Int,∃ai:Int,∃aj:ByteArray,∃au:Bool,e=.returned (.tuple #[.agg #[.int .i64 ah,.int .i64 ai,.string aj],.bool au])/\
 stA prog 73 (⟨aB,0,none⟩:Addr) #[.int .i64 ah,.int .i64 ai,.string aj] iK λdO=>
 zJh K p6 b9 au aB dO))/\(
 alE (.cells #[.int .i64 0,.int .i64 0,.string (⟨#[]⟩:ByteArray)] 73) bA λaB rI=>
 ∃S5:World->Prop,S5 rI/\(∀u,S5 u->S2 u)/\
 ∃bT:ByteArray,∃pk:World,(convert 22 9 (.slice bp.a bp.len bp.cap)).run prog rI=.ok (.string bT) pk/\
 ∃S6:World->Prop,S6 pk/\(∀u,S6 u->S5 u)/\
 fnE aE λf75 first75 aH=>
 zQt prog f75=true/\Calls prog f75 (first75.toList ++ (([.string bT]:List Value) ++ aH.toList)).toArray pk λe rq=>
 ∃ah:Int,∃ai:Int,∃aj:ByteArray,∃au:Bool,e=.returned (.tuple #[.agg #[.int .i64 ah,.int .i64 ai,.string aj],.bool au])/\
 stA prog 73 (⟨aB,0,none⟩:Addr) #[.int .i64 ah,.int .i64 ai,.string aj] rq λip=>
 zJh K p6 b9 au aB ip))/\(
 (
 ∃bT:ByteArray,∃jD:World,(convert 22 9 (.slice bp.a bp.len bp.cap)).run prog bK=.ok (.string bT) jD/\
 ∃S7:World->Prop,S7 jD/\(∀u,S7 u->S1 u)/\
 (
 Calls prog 145 #[] jD λe kH=>
 ∃cp:Option Nat,e=.returned (.map cp)/\
 ∃S8:World->Prop,S8 kH/\(∀u,S8 u->S7 u)/\
 ∃aU:Int,∃aV:Int,∃aX:Int,∃aY:Value,∃aE:Value,(∀w',S8 w'->(Instr.lookup 176 (.map cp) (.int .i64 gB) false).run prog w'=.ok (.agg #[.int .u8 aU,.int .i64 aV,.int .i64 aX,aY,aE]) w')/\
 (
 fnE aE λf75 first75 aH=>
 zQt prog f75=true/\Calls prog f75 (first75.toList ++ (([.string bT]:List Value) ++ aH.toList)).toArray kH λe mI=>
 ∃ah:Int,∃ai:Int,∃aj:ByteArray,∃au:Bool,e=.returned (.tuple #[.agg #[.int .i64 ah,.int .i64 ai,.string aj],.bool au])/\
 alE (.cells #[.int .i64 0,.int .i64 0,.string (⟨#[]⟩:ByteArray)] 73) mI λaB kR=>
 stA prog 73 (⟨aB,0,none⟩:Addr) #[.int .i64 ah,.int .i64 ai,.string aj] kR λju=>
 zJh K p6 b9 au aB ju)/\(
 alE (.cells #[.int .i64 0,.int .i64 0,.string (⟨#[]⟩:ByteArray)] 73) kH λaB pf=>
 ∃S9:World->Prop,S9 pf/\(∀u,S9 u->S8 u)/\
 fnE aE λf75 first75 aH=>
 zQt prog f75=true/\Calls prog f75 (first75.toList ++ (([.string bT]:List Value) ++ aH.toList)).toArray pf λe jE=>
 ∃ah:Int,∃ai:Int,∃aj:ByteArray,∃au:Bool,e=.returned (.tuple #[.agg #[.int .i64 ah,.int .i64 ai,.string aj],.bool au])/\
 stA prog 73 (⟨aB,0,none⟩:Addr) #[.int .i64 ah,.int .i64 ai,.string aj] jE λj0=>
 zJh K p6 b9 au aB j0))/\(
 alE (.cells #[.int .i64 0,.int .i64 0,.string (⟨#[]⟩:ByteArray)] 73) jD λaB rJ=>
 ∃S10:World->Prop,S10 rJ/\(∀u,S10 u->S7 u)/\
 Calls prog 145 #[] rJ λe rK=>
 ∃cp:Option Nat,e=.returned (.map cp)/\
 ∃S11:World->Prop,S11 rK/\(∀u,S11 u->S10 u)/\
 ∃aU:Int,∃aV:Int,∃aX:Int,∃aY:Value,∃aE:Value,(∀w',S11 w'->(Instr.lookup 176 (.map cp) (.int .i64 gB) false).run prog w'=.ok (.agg #[.int .u8 aU,.int .i64 aV,.int .i64 aX,aY,aE]) w')/\
 fnE aE λf75 first75 aH=>
 zQt prog f75=true/\Calls prog f75 (first75.toList ++ (([.string bT]:List Value) ++ aH.toList)).toArray rK λe uq=>
 ∃ah:Int,∃ai:Int,∃aj:ByteArray,∃au:Bool,e=.returned (.tuple #[.agg #[.int .i64 ah,.int .i64 ai,.string aj],.bool au])/\
 stA prog 73 (⟨aB,0,none⟩:Addr) #[.int .i64 ah,.int .i64 ai,.string aj] uq λkJ=>
 zJh K p6 b9 au aB kJ))/\(
 alE (.cells #[.int .i64 0,.int .i64 0,.string (⟨#[]⟩:ByteArray)] 73) bK λaB jK=>
 ∃S12:World->Prop,S12 jK/\(∀u,S12 u->S1 u)/\
 (
 Calls prog 145 #[] jK λe lg=>
 ∃cp:Option Nat,e=.returned (.map cp)/\
 ∃S13:World->Prop,S13 lg/\(∀u,S13 u->S12 u)/\
 ∃aU:Int,∃aV:Int,∃aX:Int,∃aY:Value,∃aE:Value,(∀w',S13 w'->(Instr.lookup 176 (.map cp) (.int .i64 gB) false).run prog w'=.ok (.agg #[.int .u8 aU,.int .i64 aV,.int .i64 aX,aY,aE]) w')/\
 ∃bT:ByteArray,∃jL:World,(convert 22 9 (.slice bp.a bp.len bp.cap)).run prog lg=.ok (.string bT) jL/\
 ∃S14:World->Prop,S14 jL/\(∀u,S14 u->S13 u)/\
 fnE aE λf75 first75 aH=>
 zQt prog f75=true/\Calls prog f75 (first75.toList ++ (([.string bT]:List Value) ++ aH.toList)).toArray jL λe pm=>
 ∃ah:Int,∃ai:Int,∃aj:ByteArray,∃au:Bool,e=.returned (.tuple #[.agg #[.int .i64 ah,.int .i64 ai,.string aj],.bool au])/\
 stA prog 73 (⟨aB,0,none⟩:Addr) #[.int .i64 ah,.int .i64 ai,.string aj] pm λfm=>
 zJh K p6 b9 au aB fm)/\(
 ∃bT:ByteArray,∃jM:World,(convert 22 9 (.slice bp.a bp.len bp.cap)).run prog jK=.ok (.string bT) jM/\
 ∃S15:World->Prop,S15 jM/\(∀u,S15 u->S12 u)/\
 Calls prog 145 #[] jM λe li=>
 ∃cp:Option Nat,e=.returned (.map cp)/\
 ∃S16:World->Prop,S16 li/\(∀u,S16 u->S15 u)/\
 ∃aU:Int,∃aV:Int,∃aX:Int,∃aY:Value,∃aE:Value,(∀w',S16 w'->(Instr.lookup 176 (.map cp) (.int .i64 gB) false).run prog w'=.ok (.agg #[.int .u8 aU,.int .i64 aV,.int .i64 aX,aY,aE]) w')/\
 fnE aE λf75 first75 aH=>
 zQt prog f75=true/\Calls prog f75 (first75.toList ++ (([.string bT]:List Value) ++ aH.toList)).toArray li λe pn=>
 ∃ah:Int,∃ai:Int,∃aj:ByteArray,∃au:Bool,e=.returned (.tuple #[.agg #[.int .i64 ah,.int .i64 ai,.string aj],.bool au])/\
 stA prog 73 (⟨aB,0,none⟩:Addr) #[.int .i64 ah,.int .i64 ai,.string aj] pn λfo=>
 zJh K p6 b9 au aB fo)))
theorem yJp {K:Bool->World->Prop} {p6:Option Addr} {b9:Bool} {cg:Nat} {bp:SV} {w9:World} {f:Fld} {part:List UInt8} (hb:w9.heap[cg]?=some (.cells #[.string f.name,.int .i64 f.kind,.int .i64 f.width,.bool f.null] 129)) (hf:zQo f=true) (hl:ByV w9 bp part)
  (tail:∀(wz:World) (aB:Nat),Pu w9 wz->wz.heap[aB]?=some (.cells #[.int .i64 (zZs f.kind part).kind,.int .i64 (zZs f.kind part).n,.string (zZs f.kind part).s] 73)->zJh K p6 b9 (okS f.kind part) aB wz):yZj K p6 b9 cg bp w9:=by
 obtain⟨R5,hk5,hbody,hcall0⟩:=yVU hf
 have hsz:(bs part).size<=140737488355328:=by rw[zQ2,←hl.len];exact hl.lim
 have hcall:∀w,Calls prog R5.rd #[.string (bs part)] w λe w'=>e=.returned (.tuple #[zKL (zZs f.kind part),.bool (okS f.kind part)])/\Pu w w':=λw=>by
  have:=hcall0 (bs part) hsz w
  rw[zQF]at this;exact this
 have kin:∀wz,Calls prog 145 #[] wz λe w'=>∃m:Nat,e=.returned (.map (some m))/\(∀u,Pu w' u->(Instr.lookup 176 (.map (some m)) (.int .i64 f.kind) false).run prog u=.ok (.agg #[.int .u8 R5.letter,.int .i64 R5.least,.int .i64 R5.most,.func (.func R5.wr) #[] #[],.func (.func R5.rd) #[] #[]]) u)/\Pu wz w':=λwz=>by
  refine(zKN wz).mono ?_
  rintro e w' ⟨m,rfl,hm,_,hp⟩
  refine⟨m,rfl,λu hu=>?_,hp⟩
  have:=zKc (hm.pu hu) f.kind false
  rw[hk5]at this;exact this
 have conv:∀{wz},Pu w9 wz->(convert 22 9 (.slice bp.a bp.len bp.cap)).run prog wz=.ok (.string (bs part)) wz:=λ{wz} h=>yXD (hl.pu h)
 -- the call, then the variable
 have ca:∀{wz:World},Pu w9 wz->Calls prog R5.rd #[.string (bs part)] wz λe ce=>∃ah:Int,∃ai:Int,∃aj:ByteArray,∃au:Bool,e=.returned (.tuple #[.agg #[.int .i64 ah,.int .i64 ai,.string aj],.bool au])/\
   alE (.cells #[.int .i64 0,.int .i64 0,.string (⟨#[]⟩:ByteArray)] 73) ce λaB cf=>stA prog 73 (⟨aB,0,none⟩:Addr) #[.int .i64 ah,.int .i64 ai,.string aj] cf λbt=>zJh K p6 b9 au aB bt:=λ{wz} hz=>by
  refine(hcall wz).mono ?_
  rintro e w1 ⟨rfl,aA⟩
  exact⟨_,_,_,_,rfl,zYj rfl s25.symm rfl λw2 ay mB aL=>tail w2 _ ((hz.trans aA).trans ay) aL⟩
 -- the call, behind the variable
 have ac:∀{wz:World} {aB:Nat},Pu w9 wz->wz.heap[aB]?=some (.cells #[.int .i64 0,.int .i64 0,.string (⟨#[]⟩:ByteArray)] 73)->w9.heap.size<=aB->Calls prog R5.rd #[.string (bs part)] wz λe ce=>∃ah:Int,∃ai:Int,∃aj:ByteArray,∃au:Bool,e=.returned (.tuple #[.agg #[.int .i64 ah,.int .i64 ai,.string aj],.bool au])/\
   stA prog 73 (⟨aB,0,none⟩:Addr) #[.int .i64 ah,.int .i64 ai,.string aj] ce λbt=>zJh K p6 b9 au aB bt:=λ{wz aB} hz go hr=>by
  refine(hcall wz).mono ?_
  rintro e w1 ⟨rfl,aA⟩
  exact⟨_,_,_,_,rfl,zQl (aA.blk go) s25.symm rfl rfl λw2 aL dL mB=>tail w2 _ ((hz.trans aA).andNew dL λi hi=>by omega) aL⟩
 refine zQe λbK bU _=>⟨λu=>Pu bK u,Pu.refl _,f.kind,λu hu=>cl (hu.blk (bU.blk hb)) 1,(kin bK).mono ?_,?_,alB λw2 ay aL=>?_⟩
 ·rintro e w1 ⟨m,rfl,hm,aA⟩
  have q1:=bU.trans aA
  refine⟨some m,rfl,λu=>Pu w1 u,Pu.refl _,λu hu=>aA.trans hu,_,_,_,_,_,hm,⟨bs part,w1,conv q1,λu=>Pu w1 u,Pu.refl _,λu hu=>hu,⟨hbody,ca q1⟩,alB λw2 ay aL=>⟨λu=>Pu w2 u,Pu.refl _,λu hu=>ay.trans hu,hbody,ac (q1.trans ay) aL q1.size⟩⟩,alB λw2 ay aL=>?_⟩
  exact⟨λu=>Pu w2 u,Pu.refl _,λu hu=>ay.trans hu,bs part,w2,conv (q1.trans ay),λu=>Pu w2 u,Pu.refl _,λu hu=>hu,hbody,ac (q1.trans ay) aL q1.size⟩
 ·refine⟨bs part,bK,conv bU,λu=>Pu bK u,Pu.refl _,λu hu=>hu,(kin bK).mono ?_,alB λw2 ay aL=>?_⟩
  ·rintro e w1 ⟨m,rfl,hm,aA⟩
   have q1:=bU.trans aA
   exact⟨some m,rfl,λu=>Pu w1 u,Pu.refl _,λu hu=>aA.trans hu,_,_,_,_,_,hm,⟨hbody,ca q1⟩,alB λw2 ay aL=>⟨λu=>Pu w2 u,Pu.refl _,λu hu=>ay.trans hu,hbody,ac (q1.trans ay) aL q1.size⟩⟩
  ·refine⟨λu=>Pu w2 u,Pu.refl _,λu hu=>ay.trans hu,(kin w2).mono ?_⟩
   rintro e w1 ⟨m,rfl,hm,aA⟩
   exact⟨some m,rfl,λu=>Pu w1 u,Pu.refl _,λu hu=>aA.trans hu,_,_,_,_,_,hm,hbody,ac ((bU.trans ay).trans aA) (aA.blk aL) bU.size⟩
 ·refine⟨λu=>Pu w2 u,Pu.refl _,λu hu=>ay.trans hu,(kin w2).mono ?_,bs part,w2,conv (bU.trans ay),λu=>Pu w2 u,Pu.refl _,λu hu=>hu,(kin w2).mono ?_⟩
  ·rintro e w1 ⟨m,rfl,hm,aA⟩
   exact⟨some m,rfl,λu=>Pu w1 u,Pu.refl _,λu hu=>aA.trans hu,_,_,_,_,_,hm,bs part,w1,conv ((bU.trans ay).trans aA),λu=>Pu w1 u,Pu.refl _,λu hu=>hu,hbody,ac ((bU.trans ay).trans aA) (aA.blk aL) bU.size⟩
  ·rintro e w1 ⟨m,rfl,hm,aA⟩
   exact⟨some m,rfl,λu=>Pu w1 u,Pu.refl _,λu hu=>aA.trans hu,_,_,_,_,_,hm,hbody,ac ((bU.trans ay).trans aA) (aA.blk aL) bU.size⟩
theorem zYK {w:World} {l:List Fld} {s t:SV} {d:List UInt8} (h:zXV w s l) (hall:l.all zQo=true) (fv:l.length<=16) (ht:ByV w t d) (hd:(d.length:Int)=zXE l) :
  Calls prog 163 #[.slice s.a s.len s.cap,.slice t.a t.len t.cap] w λe w'=>∃(g ok:Bool) (vs:List Val) (q:SV),e=.returned (.tuple #[.agg #[.bool g,.slice q.a q.len q.cap],.bool ok])/\zJO w w' q vs/\vs.length=l.length/\(∀v ∈ vs,zZ2 v.kind/\zZ2 v.n)/\Pu w w'/\
   ∀(r:Rec) (p:Int),zXh l p r.v->zZI zQm l r=d->g=r.gone/\vs=r.v/\ok=true:=by
 have hsl:=h.len
 have htl:=ht.len
 have hnl:=zY6 l
 have hwide:=zZQ (WOk.of hall)
 have hlw:(l.map (·.width)).sum<=254 * l.length:=hwide.2
 have sW:0<d.length:=by unfold zXE at hd;omega
 have hdb:(d.length:Int)<=10000:=by unfold zXE at hd;omega
 have hdw:1+zXb l<=d.length:=by unfold zXE at hd;omega
 refine yKv _ _ w _ (alB λw1 aA aD=>?_)
 obtain⟨b0,pF⟩:=zXf sW
 obtain⟨a0,wO,wP⟩:=(ht.pu aA).get _ _ pF
 refine⟨a0,wO,by omega,by omega,_,wP,zYj rfl s46.symm rfl λw2 ay mB aL=>(zJV (h.pu (aA.trans ay))).mono ?_⟩
 rintro e w3 ⟨rfl,aC⟩
 refine⟨_,rfl,?_⟩
 have l1:w.heap.size<w1.heap.size:=zQ5 aD
 have l2:w1.heap.size<w2.heap.size:=zQ5 aL
 have z3:=aC.size
 have qn:zVv w w2 w.heap.size w1.heap.size (((b0.toNat:Nat):Int) == 42) [] w3:=⟨⟨⟨none,0,0⟩,aC.blk aL,zJO.nil w2 w3⟩,(ay.trans aC).blk aD,z3,(aA.trans ay).trans aC,by omega,l2,by omega,Nat.le_refl _,by omega⟩
 rw[zQa (by omega) (by omega)]
 refine zQD l.length (λk u w'=>u.2.2.2=(k:Int)/\u.1=(zVR l k:Nat)/\u.2.1=(zXy l k:Nat)/\∃vs:List Val,vs.length=k/\(∀v ∈ vs,zZ2 v.kind/\zZ2 v.n)/\zVv w w2 w.heap.size w1.heap.size (((b0.toNat:Nat):Int) == 42) vs w'/\
   ∀(r:Rec) (p:Int),zXh l p r.v->zZI zQm l r=d->vs=r.v.take k/\u.2.2.1=true) ⟨rfl,by show(1:Int)+((zXb l:Nat):Int)=_;unfold zVR;simp,rfl,[],rfl,by simp,qn,λr p _ _=>⟨by simp,rfl⟩⟩ ?_
 rintro k J ⟨u1,u2,u3,u4⟩ w4 hk ⟨e4,e1,e2,vs,hvl,mq,st,hcond⟩ hJ
 obtain rfl:u4=(k:Int):=e4
 obtain rfl:u1=(zVR l k:Nat):=e1
 obtain rfl:u2=(zXy l k:Nat):=e2
 have hcond:∀(r:Rec) (p:Int),zXh l p r.v->zZI zQm l r=d->vs=r.v.take k/\u3=true:=hcond
 have hnk:=yZ1 l k
 have hfl:=List.length_filter_le (·.null) l
 dsimp only
 refine Br.of (λq=>?_) (λq=>?_)
 ·have aI:k<l.length:=by have:=zQs q;omega
  obtain⟨f,hf⟩:=zXf aI
  have hfB:=List.all_eq_true.1 hall f (List.mem_of_getElem? hf)
  have hwf:=zXm hfB
  have hoff:=xJm hall hf
  obtain⟨a,ha,hi,_,_,_,c0,c1,c2,c3⟩:=zVj (h.pu st.pu) hf
  refine⟨a,ha,by omega,by omega,_,c0,_,c1,_,c2,_,c3,zYj rfl s23.symm rfl λw5 ba j9 bq=>⟨_,cl bq 2,_,cl bq 2,?_⟩⟩
  have pJ:=st.on ba
  have yt:=ht.pu pJ.pu
  obtain⟨bp,e40,yu⟩:=yt.part3 (lo:=zVR l k) (hi:=zVR l k+f.width.toNat) (by omega) (by omega)
  rw[show zVR l k+f.width.toNat - zVR l k=f.width.toNat by omega]at yu
  have ew:IntKind.i64.wrap (((zVR l k:Nat):Int)+f.width)=((zVR l k+f.width.toNat:Nat):Int):=by rw[zQa (by omega) (by omega)];omega
  rw[ew,zQa (n:=((zXy l k:Nat):Int)+1) (by omega) (by omega)]
  refine⟨bp,w5,e40,_,cl bq 2,_,cl bq 3,?_⟩
  rw[ew]
  have hpart:∀(r:Rec) (p:Int),zXh l p r.v->zZI zQm l r=d->∀v,r.v[k]?=some v->(d.drop (zVR l k)).take f.width.toNat=zQm f v:=λr p hR hrow v hv=>yYa hall hR hrow hf hv
  generalize hpt:(d.drop (zVR l k)).take f.width.toNat=part at *
  -- behind the value
  have next:∀{nk:Int} {v:Val} {b:Bool} {w':World},nk=(zXy l (k+1):Nat)->zZ2 v.kind/\zZ2 v.n->zVv w w2 w.heap.size w1.heap.size (((b0.toNat:Nat):Int) == 42) (vs ++ [v]) w'->
    (∀(r:Rec) (p:Int),zXh l p r.v->zZI zQm l r=d->u3=true->∀v',r.v[k]?=some v'->v=v'/\b=true)->J (((zVR l k+f.width.toNat:Nat):Int),nk,b,IntKind.i64.wrap ((k:Int)+1)) w':=λ{nk v b w'} q1 q2 q3 q4=>by
   rw[zQa (by omega) (by omega)]
   refine hJ _ _ aI ⟨by dsimp only;omega,by dsimp only;rw[yVa hall hf],q1,vs ++ [v],by simp[hvl],λx hx=>?_,q3,λr p hR hrow=>?_⟩
   ·rcases List.mem_append.1 hx with hx|hx
    ·exact mq x hx
    ·simp at hx;subst hx;exact q2
   ·obtain⟨h1,h2⟩:=hcond r p hR hrow
    obtain⟨v',hv'⟩:=zXf (l:=r.v) (k:=k) (by have:=hR.1;omega)
    obtain⟨h3,h4⟩:=q4 r p hR hrow h2 v' hv'
    exact⟨by rw[zQK hv',←h1,h3],h4⟩
  -- a value that is there
  have reg:∀{nk:Int},nk=(zXy l (k+1):Nat)->(∀(r:Rec) (p:Int),zXh l p r.v->zZI zQm l r=d->∀v',r.v[k]?=some v'->v'.kind ≠ 0)->
    yZj (λb w'=>J (((zVR l k+f.width.toNat:Nat):Int),nk,b,IntKind.i64.wrap ((k:Int)+1)) w') (some ⟨w1.heap.size,0,none⟩) u3 w4.heap.size bp w5:=λ{nk} hnk hkind=>by
   refine yJp bq hfB yu λwz aB hz go=>?_
   have stz:=pJ.on hz
   refine Br.of (λq1=>yWM stz (v:=zZs f.kind part) go (by omega) λw' st'=>next hnk (yZh _ _) st' λr p hR hrow hu v' hv'=>?_) (λq1=>yWM stz (v:=zZs f.kind part) go (by omega) λw' st'=>next hnk (yZh _ _) st' λr p hR hrow hu v' hv'=>?_)
   ·have:=yZT (hR.2 k f v' hf hv') (hkind r p hR hrow v' hv')
    rw[←hpart r p hR hrow v' hv']at this;exact this
   ·rw[q1]at hu;cases hu
  refine Br.of (λq1=>⟨rfl,by decide,?_⟩) (λq1=>reg (by rw[zKM hf,if_neg (by rw[q1];simp)]) λr p hR hrow v' hv' h0=>?_)
  ·have hm1:zXy l k+1<=(l.filter (·.null)).length:=by
    have h1:=zKM hf
    rw[if_pos q1]at h1
    have h2:=yZ1 l (k+1)
    omega
   have hq:zXy l k / 8<zXb l:=by unfold zXb;omega
   have e1:((zXy l k:Nat):Int).tdiv 8=((zXy l k / 8:Nat):Int):=zJ6 _ 8
   have e2:((zXy l k:Nat):Int).tmod 8=((zXy l k % 8:Nat):Int):=zKu _ 8
   rw[e1,e2,zQa (n:=((zXy l k / 8:Nat):Int)) (by omega) (by omega),zQa (n:=1+((zXy l k / 8:Nat):Int)) (by omega) (by omega)]
   obtain⟨bf,hbf⟩:=zXf (l:=d) (k:=1+zXy l k / 8) (by omega)
   obtain⟨af,haf,hcf⟩:=yt.get _ _ hbf
   refine⟨af,haf,by omega,by omega,_,by rw[show(1+((zXy l k / 8:Nat):Int)).toNat=1+zXy l k / 8 by omega];exact hcf,rfl,by decide,by omega,?_⟩
   rw[zZW,bit_p _ bf.toNat_lt _ (Nat.mod_lt _ (by decide))]
   have enk:((zXy l k:Nat):Int)+1=((zXy l (k+1):Nat):Int):=by rw[zKM hf,if_pos q1];omega
   refine Br.of (λq2=>?_) (λq2=>reg enk λr p hR hrow v' hv' h0=>?_)
   ·obtain⟨q,h6,pG⟩:=pJ.ex
    refine⟨q,cl h6 1,xZg (v:=noV) pJ h6 pG rfl (by omega) λw' st'=>next enk ⟨⟨by decide,by decide⟩,⟨by decide,by decide⟩⟩ st' λr p hR hrow hu v' hv'=>⟨?_,hu⟩⟩
    have hbit:=yZ0 hR hrow hf hv' q1 hbf
    rw[q2]at hbit
    have h0:v'.kind=0:=by simpa using hbit.symm
    have hRv:=hR.2 k f v' hf hv'
    cases hRv with
    | nil hv hn=>exact hv.symm
    | truth hk hw hv hn=>rw[hv]at h0;exact absurd h0 (by simp)
    | num hk hw hv hn hl=>rw[hv]at h0;exact absurd h0 (by simp)
    | date hk hw hv hn=>rw[hv]at h0;exact absurd h0 (by simp)
    | text hk hw hv hl hb ht=>rw[hv]at h0;exact absurd h0 (by simp)
    | memo hk hw hv hn=>rw[hv]at h0;exact absurd h0 (by simp)
   ·have hbit:=yZ0 hR hrow hf hv' q1 hbf
    rw[q2,decide_eq_true h0]at hbit;cases hbit
  ·have hRv:=hR.2 k f v' hf hv'
   cases hRv with
   | nil hv hn=>rw[q1]at hn;cases hn
   | truth hk hw hv hn=>rw[hv]at h0;exact absurd h0 (by simp)
   | num hk hw hv hn hl=>rw[hv]at h0;exact absurd h0 (by simp)
   | date hk hw hv hn=>rw[hv]at h0;exact absurd h0 (by simp)
   | text hk hw hv hl hb ht=>rw[hv]at h0;exact absurd h0 (by simp)
   | memo hk hw hv hn=>rw[hv]at h0;exact absurd h0 (by simp)
 ·have aI:k=l.length:=by have:=zQj q;omega
  subst aI
  obtain⟨q,h6,hq⟩:=st.ex
  have hne:=st.ne
  refine⟨_,cl h6 0,q,cl h6 1,zQl st.b4 s46.symm rfl rfl λw5 bq ci j9=>⟨_,cl bq 0,q,cl bq 1,_,u3,vs,q,rfl,?_,hvl,mq,st.pu.andNew ci λi hi=>by omega,λr p hR hrow=>?_⟩⟩
  ·exact(hq.fr ci λi hi=>by have:=hq.2 i hi;omega).low (by omega)
  ·obtain⟨h1,h2⟩:=hcond r p hR hrow
   refine⟨?_,by rw[h1,List.take_of_length_le (by have:=hR.1;omega)],h2⟩
   rw[yVS hrow pF]
   cases r.gone <;> decide
end Go.Proofs.YtaeecpjhfmcliaaGreatDoor
/- Table: the reference's reading of a row's bytes. No condition. -/
set_option maxHeartbeats 2000000
namespace Go.Proofs.YtaeecpjhfmcliaaGreatDoor
open Go.Sh Go.RowKit Tryz
def w84(K:Int->Int->World->Prop)(l0:SV)(n8 n7:Int)(cf:World):Prop:=
 ∃a21:Addr,l0.a=some a21/\0<=n8/\n8<((l0.len:Nat):Int)/\
 ∃qe:Int,cf.cell? ((a21.add (n8.toNat * 4)).add 2)=some (.int .i64 qe)/\K qe n7 cf
end Go.Proofs.YtaeecpjhfmcliaaGreatDoor
/- Table: rows of fields and of records that a call has made; a field's entry, read by both packages. No condition. -/
set_option maxHeartbeats 1000000
namespace Go.Proofs.YtaeecpjhfmcliaaGreatDoor
open Go.Sh Go.RowKit Tryz
theorem u32':prog.underlying 32=some (.slice 129):=by kernel_rfl
theorem info23:(prog.info? 129).map (λi=>(i.zero,i.size,i.bytes))=some (some (.agg #[.string ⟨#[]⟩,.int .i64 0,.int .i64 0,.bool false]),4,40):=by kernel_rfl
theorem u33:prog.underlying 33=some (.slice 67):=by kernel_rfl
theorem info46:(prog.info? 67).map (λi=>(i.zero,i.size,i.bytes))=some (some (.agg #[.bool false,.slice none 0 0]),2,32):=by kernel_rfl
theorem zZH(f:Fld):(zVr f).length=4:=rfl
def zKC(w0 w:World)(s:SV)(l:List Fld):Prop:=zQi w 129 4 s (l.flatMap zVr)/\∀b ∈ zQb s,w0.heap.size<=b
theorem zKC.len{w0 w:World}{s:SV}{l:List Fld}(h:zKC w0 w s l):s.len=l.length:=h.1.len zZH (by decide)
theorem zKC.pu{w0 w w':World}{s:SV}{l:List Fld}(h:zKC w0 w s l)(hp:Pu w w'):zKC w0 w' s l:=⟨h.1.pu hp,h.2⟩
theorem zKC.fr{B:Nat->Prop}{w0 w w':World}{s:SV}{l:List Fld}(h:zKC w0 w s l)(hf:Fr B w w')(hn:∀k ∈ zQb s,¬B k):zKC w0 w' s l:=⟨h.1.fr hf hn,h.2⟩
theorem zKC.nil(w0 w:World):zKC w0 w ⟨none,0,0⟩ []:=⟨zQi.nil w 129 4,by simp[zQb]⟩
theorem zKC.low{w0 w1 w:World}{s:SV}{l:List Fld}(h:zKC w1 w s l)(hz:w0.heap.size<=w1.heap.size):zKC w0 w s l:=⟨h.1,λb hb=>Nat.le_trans hz (h.2 b hb)⟩
theorem zKC.push {w0 w:World} {s:SV} {l:List Fld} (h:zKC w0 w s l) (hz:w0.heap.size<=w.heap.size) {r:Nat} {f:Fld} {c:Array Value} (hr:w.heap[r]?=some (.cells c 129)) (hc:c=#[.string f.name,.int .i64 f.kind,.int .i64 f.width,.bool f.null]) (hb:l.length<=1000000) :
  ∃(s':SV) (w':World),(Builtin.append_ #[32,32] 32 #[.slice s.a s.len s.cap,.slice (some ⟨r,0,none⟩) 1 1]).run prog w=.ok (.slice s'.a s'.len s'.cap) w'/\zKC w0 w' s' (l ++ [f])/\Fr (· ∈ zQb s) w w':=by
 subst hc
 have h1:=h.len
 obtain⟨s',w',hra,hrow,hf,hblk,_⟩:=zQ1 (P:=prog) (ty:=32) u32' info23 rfl (by decide) h.1 (A:=some ⟨r,0,none⟩) (m:=1) (c:=1) (news:=zVr f) rfl (λj u hu=>⟨_,rfl,by rw[cl hr];simpa using hu⟩) (λu hu=>by simp[zVr]at hu;rcases hu with rfl|rfl|rfl|rfl <;> rfl) (by omega)
 refine⟨s',w',hra,⟨by simpa using hrow,λb hb=>?_⟩,hf⟩
 rcases hblk b hb with h2|h2
 ·exact h.2 b h2
 ·omega
def F64(l:List Fld):Prop:=∀f ∈ l,zZ2 f.kind/\zZ2 f.width
def V64(l:List Val):Prop:=∀v ∈ l,zZ2 v.kind/\zZ2 v.n
theorem zKC.rd{w0 w:World}{s:SV}{l:List Fld}(h:zKC w0 w s l)(hb:l.length<=1000000)(ls:F64 l):zXV w s l:=⟨h.len,h.1.le_cap.1,by have:=h.len;omega,λi f hf=>by
 obtain⟨a,h1,_,c0⟩:=h.1.elem zZH hf (o:=0) rfl
 obtain⟨a1,ke,_,c1⟩:=h.1.elem zZH hf (o:=1) rfl
 obtain⟨a2,h1'',_,c2⟩:=h.1.elem zZH hf (o:=2) rfl
 obtain⟨a3,h1''',_,c3⟩:=h.1.elem zZH hf (o:=3) rfl
 rw[h1]at ke h1'' h1''';cases ke;cases h1'';cases h1'''
 refine⟨a,h1,zVr f,⟨rfl,ls f (List.mem_of_getElem? hf)⟩,λj v hv=>?_⟩
 rcases j with _|_|_|_|j <;> simp[zVr]at hv
 ·subst hv;exact c0
 ·subst hv;exact c1
 ·subst hv;exact c2
 ·subst hv;exact c3⟩
theorem zJO.rdS{w0 w:World}{s:SV}{l:List Val}(h:zJO w0 w s l)(hb:l.length<=1000000)(ls:V64 l):zXV w s l:=⟨h.len,h.1.le_cap.1,by have:=h.len;omega,λi f hf=>by
 obtain⟨a,h1,_,c0⟩:=h.1.elem zX6 hf (o:=0) rfl
 obtain⟨a1,ke,_,c1⟩:=h.1.elem zX6 hf (o:=1) rfl
 obtain⟨a2,h1'',_,c2⟩:=h.1.elem zX6 hf (o:=2) rfl
 rw[h1]at ke h1'';cases ke;cases h1''
 refine⟨a,h1,zWQ f,⟨rfl,ls f (List.mem_of_getElem? hf)⟩,λj v hv=>?_⟩
 rcases j with _|_|_|j <;> simp[zWQ]at hv
 ·subst hv;exact c0
 ·subst hv;exact c1
 ·subst hv;exact c2⟩
def yZt(x:Bool × SV):List Value:=[.bool x.1,.slice x.2.a x.2.len x.2.cap]
theorem zQR(x:Bool × SV):(yZt x).length=2:=rfl
theorem zQp{w:World}{e e':TypeId}{sz sz':Nat}{s s':SV}{vs vs':List Value}(h:zQi w e sz s vs)(h':zQi w e' sz' s' vs')(hne:e ≠ e'):∀k ∈ zQb s,¬k ∈ zQb s':=λk hk hk'=>by
 obtain⟨_,rfl|⟨g,cur,h3,h4,_⟩⟩:=h
 ·simp[zQb]at hk
 obtain⟨_,rfl|⟨g',cur',h3',wQ,_⟩⟩:=h'
 ·simp[zQb]at hk'
 simp[zQb,h3]at hk
 simp[zQb,h3']at hk'
 subst hk;subst hk'
 rw[h4]at wQ
 simp only[Option.some.injEq,Obj.cells.injEq]at wQ
 exact hne wQ.2.1
def zJD(w0 w:World)(s:SV)(rs:List Rec):Prop:=∃qs:List (Bool × SV),zQi w 67 2 s (qs.flatMap yZt)/\(∀b ∈ zQb s,w0.heap.size<=b)/\qs.length=rs.length/\∀(i:Nat) (r:Rec) (x:Bool × SV),rs[i]?=some r->qs[i]?=some x->x.1=r.gone/\zJO w0 w x.2 r.v
theorem zJD.len{w0 w:World}{s:SV}{rs:List Rec}(h:zJD w0 w s rs):s.len=rs.length:=by
 obtain⟨qs,h1,_,h3,_⟩:=h
 rw[h1.len zQR (by decide),h3]
theorem zJD.own{w0 w:World}{s:SV}{rs:List Rec}(h:zJD w0 w s rs):∀b ∈ zQb s,w0.heap.size<=b:=h.choose_spec.2.1
theorem zJD.pu{w0 w w':World}{s:SV}{rs:List Rec}(h:zJD w0 w s rs)(hp:Pu w w'):zJD w0 w' s rs:=by
 obtain⟨qs,h1,h2,h3,h4⟩:=h
 exact⟨qs,h1.pu hp,h2,h3,λi r x hr hx=>⟨(h4 i r x hr hx).1,(h4 i r x hr hx).2.pu hp⟩⟩
theorem zJD.one {w0 w w':World} {b:Nat} {s:SV} {rs:List Rec} (h:zJD w0 w s rs) (hf:Fr (·=b) w w') (hb:b<w0.heap.size):zJD w0 w' s rs:=by
 obtain⟨qs,h1,h2,h3,h4⟩:=h
 exact⟨qs,h1.fr hf λk hk e=>by have:=h2 k hk;omega,h2,h3,λi r x hr hx=>⟨(h4 i r x hr hx).1,(h4 i r x hr hx).2.fr hf λk hk e=>by have:=(h4 i r x hr hx).2.2 k hk;omega⟩⟩
theorem zJD.low{w0 w1 w:World}{s:SV}{rs:List Rec}(h:zJD w1 w s rs)(hz:w0.heap.size<=w1.heap.size):zJD w0 w s rs:=by
 obtain⟨qs,h1,h2,h3,h4⟩:=h
 exact⟨qs,h1,λb hb=>Nat.le_trans hz (h2 b hb),h3,λi r x hr hx=>⟨(h4 i r x hr hx).1,(h4 i r x hr hx).2.low hz⟩⟩
theorem zJD.nil(w0 w:World):zJD w0 w ⟨none,0,0⟩ []:=⟨[],zQi.nil w 67 2,by simp[zQb],rfl,λi r x hr=>by simp at hr⟩
theorem zJD.push {w0 w:World} {s q:SV} {rs:List Rec} {g:Bool} {vs:List Val} (h:zJD w0 w s rs) (hz:w0.heap.size<=w.heap.size) (hq:zJO w0 w q vs) {r:Nat} {c:Array Value} (hr:w.heap[r]?=some (.cells c 67)) (hc:c=#[.bool g,.slice q.a q.len q.cap]) (hb:rs.length<=1000000) :
  ∃(s':SV) (w':World),(Builtin.append_ #[33,33] 33 #[.slice s.a s.len s.cap,.slice (some ⟨r,0,none⟩) 1 1]).run prog w=.ok (.slice s'.a s'.len s'.cap) w'/\zJD w0 w' s' (rs ++ [⟨g,vs⟩])/\Fr (· ∈ zQb s) w w':=by
 subst hc
 have h1:=h.len
 obtain⟨qs,r1,r2,r3,r4⟩:=h
 obtain⟨s',w',hra,hrow,hf,hblk,_⟩:=zQ1 (P:=prog) (ty:=33) u33 info46 rfl (by decide) r1 (A:=some ⟨r,0,none⟩) (m:=1) (c:=1) (news:=yZt (g,q)) rfl (λj u hu=>⟨_,rfl,by rw[cl hr];simpa[yZt] using hu⟩) (λu hu=>by simp[yZt]at hu;rcases hu with rfl|rfl <;> rfl) (by omega)
 refine⟨s',w',hra,⟨qs ++ [(g,q)],by simpa using hrow,λb hb=>?_,by simp[r3],λi rr x gl hx=>?_⟩,hf⟩
 ·rcases hblk b hb with h2|h2
  ·exact r2 b h2
  ·omega
 ·rcases Nat.lt_trichotomy i rs.length with hi|hi|hi
  ·rw[List.getElem?_append_left hi]at gl
   rw[List.getElem?_append_left (by omega)]at hx
   obtain⟨e1,e2⟩:=r4 i rr x gl hx
   exact⟨e1,e2.fr hf (zQp e2.1 r1 (by decide))⟩
  ·subst hi
   rw[List.getElem?_append_right (Nat.le_refl _),Nat.sub_self]at gl
   rw[←r3,List.getElem?_append_right (Nat.le_refl _),Nat.sub_self]at hx
   simp at gl hx;subst gl hx
   exact⟨rfl,hq.fr hf (zQp hq.1 r1 (by decide))⟩
  ·rw[List.getElem?_eq_none (by simp;omega)]at gl;cases gl
def R64(rs:List Rec):Prop:=∀r ∈ rs,V64 r.v/\r.v.length<=1000000
theorem zJD.rd{w0 w:World}{s:SV}{rs:List Rec}(h:zJD w0 w s rs)(hb:rs.length<=1000000)(ls:R64 rs):zXV w s rs:=by
 have hl:=h.len
 obtain⟨qs,r1,r2,r3,r4⟩:=h
 refine⟨hl,r1.le_cap.1,by omega,λi r hr=>?_⟩
 obtain⟨x,hx⟩:=zXf (l:=qs) (k:=i) (by have:=(List.getElem?_eq_some_iff.1 hr).1;omega)
 obtain⟨e1,e2⟩:=r4 i r x hr hx
 obtain⟨a,h1,_,c0⟩:=r1.elem zQR hx (o:=0) rfl
 obtain⟨a1,ke,_,c1⟩:=r1.elem zQR hx (o:=1) rfl
 rw[h1]at ke;cases ke
 obtain⟨q1,q2⟩:=ls r (List.mem_of_getElem? hr)
 refine⟨a,h1,_,⟨x.2,rfl,e2.rdS q2 q1⟩,λj v hv=>?_⟩
 rcases j with _|_|j <;> simp at hv
 ·subst hv;rw[←e1];exact c0
 ·subst hv;exact c1
def zVn(l:List UInt8):List UInt8:=(l.reverse.dropWhile (· == 0)).reverse
theorem xZY(s:ByteArray)(hs:s.size<=140737488355328)(w:World):Calls prog 119 #[.string s,.string ⟨#[0]⟩] w λe w'=>e=.returned (.string (bs (zVn s.data.toList)))/\Pu w w':=
 (Any.strings_TrimRight_one Tryz.lays162 s 0 (by decide) w (by omega)).mono λe w' ⟨h1,h2⟩=>⟨h1,h2 ▸ Pu.refl _⟩
theorem yXO(l:List UInt8)(hl:∀b ∈ l,b ≠ 0)(j:Nat):zVn (l ++ List.replicate j 0)=l:=by
 unfold zVn
 rw[List.reverse_append,List.reverse_replicate]
 have e1:∀(j:Nat) (x:List UInt8),(List.replicate j 0 ++ x).dropWhile (· == 0)=x.dropWhile (· == 0):=by
  intro j x
  induction j with
  | zero=>rfl
  | succ j ih=>rw[List.replicate_succ,List.cons_append,List.dropWhile_cons];simp only[beq_self_eq_true,if_true];exact ih
 rw[e1]
 have e2:l.reverse.dropWhile (· == 0)=l.reverse:=by
  cases h:l.reverse with
  | nil=>rfl
  | cons a r=>
   have ha:a ∈ l:=by rw[←List.mem_reverse,h];simp
   rw[List.dropWhile_cons,if_neg (by simpa using hl a ha)]
 rw[e2,List.reverse_reverse]
theorem yYU(l:List UInt8):(zVn l).length<=l.length:=by
 unfold zVn
 have h:=List.IsSuffix.length_le (List.dropWhile_suffix (· == (0:UInt8)) (l:=l.reverse))
 simpa using h
theorem yJX{f:Fld}(h:zQo f=true):∀b ∈ f.name.data.toList,b ≠ 0:=λb hb=>by
 unfold zQo zWl at h
 simp only[Bool.and_eq_true]at h
 have h1:=List.all_eq_true.1 h.1.1.2 b hb
 intro e;subst e;revert h1;decide
theorem zVX{n:Int}(h:0<=n/\n<=255):(((zZr n).toNat:Nat):Int)=n:=by
 unfold zZr
 have:(UInt8.ofNat (n % 256).toNat).toNat=(n % 256).toNat:=by simp;omega
 rw[this];omega
theorem yXJ{f:Fld}(hf:zQo f=true){d:List UInt8}(hd:zQS f=d):d.take 10=f.name.data.toList ++ List.replicate (10 - f.name.size) 0/\d[10]?=some (zYi f.kind)/\d[11]?=some (zZr f.width)/\d[12]?=some (xZT f.null):=by
 obtain⟨_,o8,_⟩:=zQT hf
 have hl:(f.name.data.toList ++ List.replicate (10 - f.name.size) (0:UInt8)).length=10:=by rw[List.length_append,zQv,List.length_replicate];omega
 subst hd
 unfold zQS
 refine⟨?_,?_,?_,?_⟩
 ·rw[List.take_append_of_le_length (by omega),List.take_of_length_le (by omega)]
 ·rw[List.getElem?_append_right (by omega),hl];rfl
 ·rw[List.getElem?_append_right (by omega),hl];rfl
 ·rw[List.getElem?_append_right (by omega),hl];rfl
theorem yXt{k:Int}{K:K5}(h:zQJ k=some K):(k,K) ∈ zX7:=AL.get_mem h
theorem zYe:∀p ∈ zX7,∀q ∈ zX7,p.2.letter=q.2.letter->p.1=q.1:=by decide
theorem xZJ:∀p ∈ zX7,zZ2 p.1:=λp hp=>by
 have:∀p ∈ zX7,0<=p.1/\p.1<=5:=by decide
 have:=this p hp
 exact⟨by omega,by omega⟩
def KindSo (b:UInt8) (kd:Int) (todo:List (Int × K5)):Prop:=(∀p ∈ zX7,p.2.letter=((b.toNat:Nat):Int)->p ∈ todo∨kd=p.1)/\(kd=0∨∃p ∈ zX7,p.2.letter=((b.toNat:Nat):Int)/\kd=p.1)
theorem yXq{w:World}{t:SV}{d:List UInt8}(ht:ByV w t d)(hd:d.length=16):Calls prog 160 #[.slice t.a t.len t.cap] w λe w'=>∃f':Fld,e=.returned (yQA f')/\zZ2 f'.kind/\zZ2 f'.width/\f'.name.size<=10/\Pu w w'/\∀f,zQo f=true->zQS f=d->f'=f:=by
 have htl:=ht.len
 have htc:=ht.cap
 obtain⟨cr,o8⟩:=zXf (l:=d) (k:=10) (by omega)
 obtain⟨km,yv⟩:=zXf (l:=d) (k:=11) (by omega)
 obtain⟨cz,kN⟩:=zXf (l:=d) (k:=12) (by omega)
 have fh:=cr.toNat_lt
 have cq:=km.toNat_lt
 refine yZL _ w _ (alB λw1 aA aD=>zQe λw2 ay _=>?_)
 have aJ:=aA.trans ay
 obtain⟨cT,wR,wS⟩:=(ht.pu aJ).get _ _ yv
 obtain⟨js,wT,wU⟩:=(ht.pu aJ).get _ _ kN
 have hsub:∀{wz},Pu w2 wz->(convert 22 9 (.slice (if t.cap=0 then t.a else t.a.map (λx=>x.add (0 * 1))) ((10:Int).toNat - 0) (t.cap - 0))).run prog wz=.ok (.string (bs (d.take 10))) wz:=λ{wz} hz=>by
  have h1:=(ht.pu (aJ.trans hz)).sub (lo:=0) (hi:=10) (by omega) (by omega)
  rw[List.drop_zero]at h1
  exact yXD h1
 have hl10:(bs (d.take 10)).size=10:=by rw[zQ2,List.length_take];omega
 have trim:∀wz,Calls prog 119 #[.string (bs (d.take 10)),.string (⟨#[0]⟩:ByteArray)] wz λe w'=>e=.returned (.string (bs (zVn (d.take 10))))/\Pu wz w':=λwz=>by
  have:=xZY (bs (d.take 10)) (by omega) wz
  rw[zQF]at this;exact this
 have hnm:(bs (zVn (d.take 10))).size<=10:=by
  have:=yYU (d.take 10)
  rw[List.length_take]at this
  rw[zQ2];omega
 have r2lt:w.heap.size<w1.heap.size:=zQ5 aD
 have z2:=ay.size
 -- behind the variable's first values
 have main:∀{wz:World} {r3:Nat},Pu w2 wz->w2.heap.size<=r3->wz.heap[r3]?=some (.cells #[.string (bs (zVn (d.take 10))),.int .i64 0,.int .i64 (IntKind.i64.wrap ((km.toNat:Nat):Int)),.bool (((cz.toNat:Nat):Int) == 1)] 129)->
   Calls prog 145 #[] wz λe cy=>∃lc:Option Nat,e=.returned (.map lc)/\∃jh:Option Addr,∃cS:World,(Instr.range 176 (.map lc)).run prog cy=.ok (.pointer jh) cS/\
    zYV (λe w'=>∃f':Fld,e=.returned (yQA f')/\zZ2 f'.kind/\zZ2 f'.width/\f'.name.size<=10/\Pu w w'/\∀f,zQo f=true->zQS f=d->f'=f) t (some (⟨w.heap.size,0,none⟩:Addr)) (some (⟨r3,0,none⟩:Addr)) jh [] cS:=λ{wz r3} hz yw be=>by
  rw[zQa (n:=((km.toNat:Nat):Int)) (by omega) (by omega)]at be
  refine(zKN wz).mono ?_
  rintro e w3 ⟨m,rfl,hm,hml,aC⟩
  obtain⟨w4,e4,wV,aK,qm⟩:=hm.range (t:=176) xJs
  refine⟨some m,rfl,_,w4,e4,?_⟩
  have b3:=(aC.trans aK).blk be
  have l3:r3<wz.heap.size:=zQ5 be
  have z3:=aC.size
  have zz:=hz.size
  have p4:Pu w2 w4:=(hz.trans aC).trans aK
  refine yY3 (σ:=Unit) zX7.length (λn _ w'=>∃(todo:List (Int × K5)) (kd:Int),todo.length=n/\(∀p ∈ todo,p ∈ zX7)/\zX0 w' yVF zWP w3.heap.size m zX7 todo/\KindSo cr kd todo/\w4.heap.size<=w'.heap.size/\Pu w2 w'/\
   w'.heap[r3]?=some (.cells #[.string (bs (zVn (d.take 10))),.int .i64 kd,.int .i64 ((km.toNat:Nat):Int),.bool (((cz.toNat:Nat):Int) == 1)] 129)) ⟨zX7,0,rfl,λp hp=>hp,wV,⟨λp hp _=>.inl hp,.inl rfl⟩,Nat.le_refl _,p4,b3⟩ ?_
  rintro n J _ w5 ⟨todo,kd,hn,hall,hit,⟨tP,aI⟩,hz5,ba,bq⟩ hJ
  rcases hit.next (P:=prog) 0 with⟨hnil,hr⟩|⟨p,hpm,w6,hr,jB,qo,wW,hen⟩
  ·refine .inl ⟨w5,hr,?_⟩
   subst hnil
   refine⟨_,cl bq 0,_,cl bq 1,_,cl bq 2,_,cl bq 3,zQl (ba.blk (ay.blk aD)) s23.symm rfl rfl λw6 iB jB qo=>⟨_,cl iB 0,_,cl iB 1,_,cl iB 2,_,cl iB 3,⟨bs (zVn (d.take 10)),kd,((km.toNat:Nat):Int),((cz.toNat:Nat):Int) == 1⟩,rfl,?_,⟨by show _<=((km.toNat:Nat):Int);omega,by show((km.toNat:Nat):Int)<=_;omega⟩,hnm,(aJ.trans ba).andNew jB λi hi=>by omega,λf hf hd2=>?_⟩⟩
   ·rcases aI with h|⟨p,hp,_,h⟩
    ·show zZ2 kd;rw[h];exact⟨by decide,by decide⟩
    ·show zZ2 kd;rw[h];exact xZJ p hp
   ·obtain⟨e1,e2,e3,tU⟩:=yXJ hf hd2
    obtain⟨_,_,K,hK,hKl⟩:=zQT hf
    rw[o8]at e2;rw[yv]at e3;rw[kN]at tU
    have e2:=Option.some.inj e2
    have e3:=Option.some.inj e3
    have tU:=Option.some.inj tU
    have hwf:=zXm hf
    rcases tP (f.kind,K) (yXt hK) (by rw[e2];exact hKl)with h|h
    ·cases h
    obtain⟨fn,fk,fw,fnl⟩:=f
    simp only at *
    congr 1
    ·rw[e1,yXO _ (yJX hf),yXS]
    ·rw[e3];exact zVX (by omega)
    ·rw[tU];cases fnl <;> decide
  ·refine .inr ⟨_,_,w6,hr,_,_,w6,hen,?_⟩
   simp only[xJv,zWP,xZF,dHd_mk,xJ0]
   have iB:=jB.blk bq (show ¬r3=w3.heap.size by omega)
   have cW:Pu w2 w6:=ba.andNew jB λi hi=>by omega
   refine zYj rfl s102.symm (xZI rfl rfl) λw7 dK zZ sD=>zQe λw8 bM _=>?_
   have p8:=(cW.trans dK).trans bM
   obtain⟨ej,mr,ms⟩:=(ht.pu (aJ.trans p8)).get _ _ o8
   have b8:=(dK.trans bM).blk iB
   have sX:=wW.fr (Fr.pu (dK.trans bM):Fr (λ_=>False) w6 w8) (λh=>h) (λh=>h)
   have hlen:=AL.length_del hpm hit.nodup
   have hperm:=AL.perm_del hpm hit.nodup
   have o4:∀q ∈ AL.del todo p.1,q ∈ zX7:=λq hq=>hall q (hperm.symm.subset (List.mem_cons_of_mem _ hq))
   have z6:=qo
   have z78:=(dK.trans bM).size
   refine⟨_,cl0 (bM.blk sD),ej,mr,by omega,by omega,_,ms,Br.of (λq=>?_) (λq=>?_)⟩
   ·have hq:p.2.letter=((cr.toNat:Nat):Int):=zXr q
    show st1 ((⟨r3,0,none⟩:Addr).add 1) _ w8 _
    rw[zQn]
    refine zQw b8 (by simp) λw9 tR kB=>?_
    have lJ:Fr (·=r3) w8 w9:=by rw[tR];exact Fr.cell w8 _ _ _
    have z9:w9.heap.size=w8.heap.size:=by rw[tR];simp
    refine hJ _ () w9 (by omega) ⟨AL.del todo p.1,p.1,rfl,o4,sX.fr lJ (by omega) (by omega),⟨λq' hq' hl'=>.inr (zYe p (hall p hpm) q' hq' (by rw[hq,hl'])),.inr ⟨p,hall p hpm,hq,rfl⟩⟩,by omega,p8.andNew lJ λi hi=>by omega,kB⟩
   ·have hq:p.2.letter ≠ ((cr.toNat:Nat):Int):=zQ9 q
    refine hJ _ () w8 (by omega) ⟨AL.del todo p.1,kd,rfl,o4,sX,⟨λq' hq' hl'=>?_,aI⟩,by omega,p8,b8⟩
    rcases tP q' hq' hl' with h|h
    ·rcases List.mem_cons.1 (hperm.subset h)with h|h
     ·subst h;exact absurd hl' hq
     ·exact .inl h
    ·exact .inr h
 refine⟨λu=>Pu w2 u,Pu.refl _,by omega,by omega,by omega,cT,wR,by omega,by omega,_,λu hu=>hu.cell wS,js,wT,by omega,by omega,_,λu hu=>hu.cell wU,⟨bs (d.take 10),w2,hsub (Pu.refl _),Pu.refl _,(trim w2).mono ?_,alB λw3 aC be=>⟨aC,(trim w3).mono ?_⟩⟩,alB λw3 aC be=>⟨aC,bs (d.take 10),w3,hsub aC,aC,(trim w3).mono ?_⟩⟩
 ·rintro e w3 ⟨rfl,aC⟩
  exact⟨_,rfl,aC,alB λw4 aK cc=>⟨aC.trans aK,zQl cc s23.symm rfl rfl λw5 bq ci j9=>main ((aC.trans aK).andNew ci λi hi=>by have:=aC.size;omega) (aC.size) bq⟩⟩
 ·rintro e w4 ⟨rfl,aK⟩
  exact⟨_,rfl,aC.trans aK,zQl (aK.blk be) s23.symm rfl rfl λw5 bq ci j9=>main ((aC.trans aK).andNew ci λi hi=>by omega) (Nat.le_refl _) bq⟩
 ·rintro e w4 ⟨rfl,aK⟩
  exact⟨_,rfl,aC.trans aK,zQl (aK.blk be) s23.symm rfl rfl λw5 bq ci j9=>main ((aC.trans aK).andNew ci λi hi=>by omega) (Nat.le_refl _) bq⟩
end Go.Proofs.YtaeecpjhfmcliaaGreatDoor
/- Table: parts of a table's bytes; a table that a call makes. No condition. -/
set_option maxHeartbeats 1000000
namespace Go.Proofs.YtaeecpjhfmcliaaGreatDoor
open Go.Sh Go.RowKit Tryz
theorem yYk{l:List Fld}(h:l.all zQo=true):(l.flatMap zQS).length=16 * l.length:=by
 induction l with
 | nil=>rfl
 | cons f l ih=>
  rw[List.flatMap_cons,List.length_append,zZb (zQT (List.all_eq_true.1 h f (by simp))).2.1,ih (List.all_eq_true.2 λg hg=>List.all_eq_true.1 h g (by simp[hg])),List.length_cons]
  omega
def yQc(u:Tbl):List UInt8:=[67,zZr u.page] ++ zWq u.recs.length 4 ++ zWq (13+16 * u.fields.length) 2 ++ zWq (zXE u.fields).toNat 2 ++ [zZr u.fields.length,0]
theorem yQs(u:Tbl):(yQc u).length=12:=by unfold yQc;simp[zXp]
theorem yQP(u:Tbl):zQz u=yQc u ++ (u.fields.flatMap zQS ++ ([13] ++ (u.recs.flatMap (zZI zQm u.fields) ++ [26]))):=by
 unfold zQz zKB yQc;simp only[List.append_assoc]
theorem zY3{u:Tbl}{d:List UInt8}(hd:zQz u=d):d[0]?=some 67/\d[1]?=some (zZr u.page)/\(d.drop 2).take 4=zWq u.recs.length 4/\d[10]?=some (zZr u.fields.length):=by
 have hl:=zXp u.recs.length 4
 have h2:=zXp (13+16 * u.fields.length) 2
 have h3:=zXp (zXE u.fields).toNat 2
 rw[←hd,yQP]
 refine⟨rfl,rfl,?_,?_⟩
 ·unfold yQc
  simp only[List.append_assoc,List.cons_append,List.nil_append,List.drop_succ_cons,List.drop_zero]
  rw[List.take_append_of_le_length (by omega),List.take_of_length_le (by omega)]
 ·rw[List.getElem?_append_left (by rw[yQs];omega)]
  unfold yQc
  rw[List.getElem?_append_right (by simp[zXp])]
  simp[zXp]
theorem zWH{u:Tbl}(ho:zJE u){d:List UInt8}(hd:zQz u=d):(d.length:Int)=13+16 * (u.fields.length:Int)+(u.recs.length:Int) * zXE u.fields+1:=by
 have h1:=zWs ho u.recs.length (Nat.le_refl _)
 rw[List.take_length]at h1
 have h2:=zWr ho
 rw[←hd]
 unfold zQz
 rw[List.length_append,List.length_append,List.length_singleton]
 omega
theorem yX5 {u:Tbl} (ho:zJE u) {d:List UInt8} (hd:zQz u=d) {k:Nat} {f:Fld} (hf:u.fields[k]?=some f):(d.drop (12+16 * k)).take 16=zQS f:=by
 have hk:=(List.getElem?_eq_some_iff.1 hf).1
 have hall:(u.fields.take k).all zQo=true:=List.all_eq_true.2 λg hg=>List.all_eq_true.1 ho.all g (List.mem_of_mem_take hg)
 have h1:=yYk hall
 rw[List.length_take]at h1
 have fv:=zZb (zQT (List.all_eq_true.1 ho.all f (List.mem_of_getElem? hf))).2.1
 have e:u.fields.flatMap zQS=(u.fields.take k).flatMap zQS ++ (zQS f ++ (u.fields.drop (k+1)).flatMap zQS):=by
  rw[←List.flatMap_cons,←zXG hf,←List.flatMap_append,List.take_append_drop]
 have hl:(yQc u ++ (u.fields.take k).flatMap zQS).length=12+16 * k:=by rw[List.length_append,yQs,h1];omega
 rw[←hd,yQP,e,List.append_assoc,←List.append_assoc (yQc u),List.drop_append,List.drop_eq_nil_of_le (by omega),hl,Nat.sub_self,List.drop_zero,List.nil_append,List.append_assoc,List.take_append_of_le_length (by omega),List.take_of_length_le (by omega)]
theorem bytes_row {u:Tbl} (ho:zJE u) {d:List UInt8} (hd:zQz u=d) {k:Nat} {r:Rec} (hr:u.recs[k]?=some r):(d.drop (13+16 * u.fields.length+(zXE u.fields).toNat * k)).take (zXE u.fields).toNat=zZI zQm u.fields r:=by
 have hk:=(List.getElem?_eq_some_iff.1 hr).1
 have pC:0<=zXE u.fields:=by have:=zZQ (WOk.of ho.all);unfold zXE;omega
 have h1:=zWs ho k (by omega)
 have h2:=zWr ho
 have h3:=zJ0 ho.all (ho.recs r (List.mem_of_getElem? hr))
 have e:u.recs.flatMap (zZI zQm u.fields)=(u.recs.take k).flatMap (zZI zQm u.fields) ++ (zZI zQm u.fields r ++ (u.recs.drop (k+1)).flatMap (zZI zQm u.fields)):=by
  rw[←List.flatMap_cons,←zXG hr,←List.flatMap_append,List.take_append_drop]
 have hm:(((zXE u.fields).toNat * k:Nat):Int)=(k:Int) * zXE u.fields:=by
  rw[Int.natCast_mul,Int.toNat_of_nonneg pC,Int.mul_comm]
 have hl:(zKB u ++ (u.recs.take k).flatMap (zZI zQm u.fields)).length=13+16 * u.fields.length+(zXE u.fields).toNat * k:=by rw[List.length_append,h2];omega
 rw[←hd]
 unfold zQz
 rw[e,←List.append_assoc (zKB u),List.append_assoc,List.drop_append,List.drop_eq_nil_of_le (by omega),hl,Nat.sub_self,List.drop_zero,List.nil_append,List.append_assoc,List.take_append_of_le_length (by omega),List.take_of_length_le (by omega)]
structure zKH(w0 w:World)(t:Tbl)(f q:SV):Prop where
 fs:zKC w0 w f t.fields
 rs:zJD w0 w q t.recs
theorem zKH.pu{w0 w w':World}{t:Tbl}{f q:SV}(h:zKH w0 w t f q)(hp:Pu w w'):zKH w0 w' t f q:=⟨h.fs.pu hp,h.rs.pu hp⟩
theorem zKH.low{w0 w1 w:World}{t:Tbl}{f q:SV}(h:zKH w1 w t f q)(hz:w0.heap.size<=w1.heap.size):zKH w0 w t f q:=⟨h.fs.low hz,h.rs.low hz⟩
theorem zKH.one {w0 w w':World} {b:Nat} {t:Tbl} {f q:SV} (h:zKH w0 w t f q) (hf:Fr (·=b) w w') (hb:b<w0.heap.size):zKH w0 w' t f q:=⟨h.fs.fr hf λk hk e=>by have:=h.fs.2 k hk;omega,h.rs.one hf hb⟩
structure zYI(t:Tbl):Prop where
 page:zZ2 t.page
 f64:F64 t.fields
 r64:R64 t.recs
 fl:t.fields.length<=255
 rl:t.recs.length<=300
 nm:∀f ∈ t.fields,f.name.size<=10
theorem zKH.rd{w0 w:World}{t:Tbl}{f q:SV}(h:zKH w0 w t f q)(hn:zYI t):zXB w t f q:=⟨hn.page,h.fs.rd (by have:=hn.fl;omega) hn.f64,h.rs.rd (by have:=hn.rl;omega) hn.r64⟩
theorem zYI.lim{t:Tbl}(hn:zYI t):Lim.ok t.fields:=λf hf=>by
 have:=hn.nm f hf
 show f.name.size<=140737488355328
 omega
theorem zYI.zero:zYI ⟨0,[],[]⟩:=⟨⟨by decide,by decide⟩,λf hf=>by simp at hf,λr hr=>by simp at hr,by simp,by simp,λf hf=>by simp at hf⟩
theorem s35:zXn prog 35=3:=by kernel_rfl
structure zJF(w0 wr:World)(r2 r4:Nat)(t:Tbl)(w:World):Prop where
 ex:∃f q:SV,w.heap[r4]?=some (.cells #[.int .i64 t.page,.slice f.a f.len f.cap,.slice q.a q.len q.cap] 35)/\zKH wr w t f q
 b2:w.heap[r2]?=some (.cells #[.int .i64 0,.slice none 0 0,.slice none 0 0] 35)
 sz:wr.heap.size<=w.heap.size
 pu:Pu w0 w
 l2:r2<wr.heap.size
 l4:r4<wr.heap.size
 ne:r2 ≠ r4
 z2:w0.heap.size<=r2
 z4:w0.heap.size<=r4
theorem zJF.on{w0 wr w w':World}{r2 r4:Nat}{t:Tbl}(h:zJF w0 wr r2 r4 t w)(hp:Pu w w'):zJF w0 wr r2 r4 t w':=by
 obtain⟨f,q,h1,h2⟩:=h.ex
 exact⟨⟨f,q,hp.blk h1,h2.pu hp⟩,hp.blk h.b2,Nat.le_trans h.sz hp.size,h.pu.trans hp,h.l2,h.l4,h.ne,h.z2,h.z4⟩
theorem zJF.putF {w0 wr w:World} {r2 r4 r:Nat} {t:Tbl} (h:zJF w0 wr r2 r4 t w) {f q:SV} (h4:w.heap[r4]?=some (.cells #[.int .i64 t.page,.slice f.a f.len f.cap,.slice q.a q.len q.cap] 35)) (ho:zKH wr w t f q) {x:Fld} (hr:w.heap[r]?=some (.cells #[.string x.name,.int .i64 x.kind,.int .i64 x.width,.bool x.null] 129)) (hb:t.fields.length<=1000000) :
  ∃(f':SV) (w1:World),(Builtin.append_ #[32,32] 32 #[.slice f.a f.len f.cap,.slice (some ⟨r,0,none⟩) 1 1]).run prog w=.ok (.slice f'.a f'.len f'.cap) w1/\
   ∀K:World->Prop,(∀w',zJF w0 wr r2 r4 ⟨t.page,t.fields ++ [x],t.recs⟩ w'->K w')->st1 ((⟨r4,0,none⟩:Addr).add 1) (.slice f'.a f'.len f'.cap) w1 K:=by
 obtain⟨f',w1,e1,r1,f1⟩:=ho.fs.push h.sz hr rfl hb
 have n4:¬r4 ∈ zQb f:=λhc=>by have:=ho.fs.2 _ hc;have:=h.l4;omega
 have n2:¬r2 ∈ zQb f:=λhc=>by have:=ho.fs.2 _ hc;have:=h.l2;omega
 refine⟨f',w1,e1,λK hK=>?_⟩
 rw[zQn,Nat.zero_add]
 refine zQw (f1.blk h4 n4) (by simp) λwx ex hbx=>hK wx ?_
 have fx:Fr (·=r4) w1 wx:=by rw[ex];exact Fr.cell w1 _ _ _
 have zx:wx.heap.size=w1.heap.size:=by rw[ex];simp
 have z1:=f1.size
 have hne:=h.ne
 have hsz:=h.sz
 have yr:=h.z4
 have tT:=h.l4
 have rs1:zJD wr w1 q t.recs:=by
  obtain⟨qs,a1,a2,a3,a4⟩:=ho.rs
  exact⟨qs,a1.fr f1 (zQp a1 ho.fs.1 (by decide)),a2,a3,λi r' x' hr' hx'=>⟨(a4 i r' x' hr' hx').1,(a4 i r' x' hr' hx').2.fr f1 (zQp (a4 i r' x' hr' hx').2.1 ho.fs.1 (by decide))⟩⟩
 refine⟨⟨f',q,hbx,⟨r1.fr fx λi hi=>by have:=r1.2 i hi;omega,rs1.one fx tT⟩⟩,fx.blk (f1.blk h.b2 n2) (by omega),by omega,?_,h.l2,h.l4,h.ne,h.z2,h.z4⟩
 have p1:Pu w0 w1:=h.pu.andNew f1 λi hi=>by have:=ho.fs.2 i hi;omega
 exact p1.andNew fx λi hi=>by omega
theorem zJF.putR {w0 wr w:World} {r2 r4 r:Nat} {t:Tbl} (h:zJF w0 wr r2 r4 t w) {f q qv:SV} (h4:w.heap[r4]?=some (.cells #[.int .i64 t.page,.slice f.a f.len f.cap,.slice q.a q.len q.cap] 35)) (ho:zKH wr w t f q) {g:Bool} {vs:List Val} (hv:zJO wr w qv vs) (hr:w.heap[r]?=some (.cells #[.bool g,.slice qv.a qv.len qv.cap] 67)) (hb:t.recs.length<=1000000) :
  ∃(q':SV) (w1:World),(Builtin.append_ #[33,33] 33 #[.slice q.a q.len q.cap,.slice (some ⟨r,0,none⟩) 1 1]).run prog w=.ok (.slice q'.a q'.len q'.cap) w1/\
   ∀K:World->Prop,(∀w',zJF w0 wr r2 r4 ⟨t.page,t.fields,t.recs ++ [⟨g,vs⟩]⟩ w'->K w')->st1 ((⟨r4,0,none⟩:Addr).add 2) (.slice q'.a q'.len q'.cap) w1 K:=by
 obtain⟨q',w1,e1,r1,f1⟩:=ho.rs.push h.sz hv hr rfl hb
 have n4:¬r4 ∈ zQb q:=λhc=>by have:=ho.rs.own _ hc;have:=h.l4;omega
 have n2:¬r2 ∈ zQb q:=λhc=>by have:=ho.rs.own _ hc;have:=h.l2;omega
 refine⟨q',w1,e1,λK hK=>?_⟩
 rw[zQn,Nat.zero_add]
 refine zQw (f1.blk h4 n4) (by simp) λwx ex hbx=>hK wx ?_
 have fx:Fr (·=r4) w1 wx:=by rw[ex];exact Fr.cell w1 _ _ _
 have zx:wx.heap.size=w1.heap.size:=by rw[ex];simp
 have z1:=f1.size
 have hne:=h.ne
 have hsz:=h.sz
 have yr:=h.z4
 have tT:=h.l4
 have own:=ho.rs.own
 have yx:zKC wr w1 f t.fields:=by
  obtain⟨qs,a1,a2,a3,a4⟩:=ho.rs
  exact ho.fs.fr f1 (zQp ho.fs.1 a1 (by decide))
 refine⟨⟨f,q',hbx,⟨yx.fr fx λi hi=>by have:=yx.2 i hi;omega,r1.one fx tT⟩⟩,fx.blk (f1.blk h.b2 n2) (by omega),by omega,?_,h.l2,h.l4,h.ne,h.z2,h.z4⟩
 have p1:Pu w0 w1:=h.pu.andNew f1 λi hi=>by have:=own i hi;omega
 exact p1.andNew fx λi hi=>by omega
end Go.Proofs.YtaeecpjhfmcliaaGreatDoor
