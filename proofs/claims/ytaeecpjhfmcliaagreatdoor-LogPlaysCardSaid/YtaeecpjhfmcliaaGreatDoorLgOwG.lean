import Derived.Test.YtaeecpjhfmcliaaGreatDoorLgOwF
import Derived.Test.YtaeecpjhfmcliaaGreatDoorLgPrB
/- The log: numbers, sums and records as the program writes and reads them. No condition but those stated. -/
set_option maxRecDepth 100000
set_option linter.unusedVariables false
set_option linter.unusedSimpArgs false
noncomputable section
namespace Go.Proofs.YtaeecpjhfmcliaaGreatDoor
open Go.Sh Go.RowKit Tryz
variable {w w' : World}
theorem zW7:∀(k n:Nat),zJd n k=zVL n k
 | 0,_=>rfl
 | k+1,n=>by
  rw[zJd,zW7 k]
  unfold zVL
  rw[List.range_succ_eq_map,List.map_cons,List.map_map]
  congr 1
  ·rw[Nat.pow_zero,Nat.div_one]
  ·refine List.map_congr_left λj _=>?_
   show UInt8.ofNat (n / 256 / 256 ^ j % 256)=UInt8.ofNat (n / 256 ^ (j+1) % 256)
   rw[Nat.div_div_eq_div_mul,Nat.pow_succ,Nat.mul_comm 256]
theorem xQB(n k:Nat):zJd n (k+1)=zJd n k ++ [UInt8.ofNat (n / 256 ^ k % 256)]:=by rw[zW7,zW7,yZv]
theorem yJA(j:Nat):256 ^ j=2 ^ (8 * j):=by rw[Nat.pow_mul]
theorem yJ9(n k:Nat)(hk:k<=7)(hn:n<=1000000000000000)(w:World):Calls prog 143 #[.int .i64 (n:Int),.int .i64 (k:Int)] w λe w'=>∃q:SV,e=.returned (slV q)/\zQi w w' q (zJd n k)/\Pu w w':=by
 obtain⟨i,h2,h3,h4,h5⟩:=info_parts vi5
 obtain⟨w1,hr,hrow,ar,hz1⟩:=yXu (P:=prog) (w:=w) vu22 h2 h3 h4 .i64 .i64 k (by rw[h5];omega) (by omega)
 refine yKX _ _ w _ ⟨⟨some ⟨w.heap.size,0,none⟩,k,k⟩,w1,hr,?_⟩
 have hz:((madeCells (Value.int .u8 0).cells (k * 1)).toList)=(List.replicate k (0:UInt8)).map u8V:=by
  rw[show(Value.int IntKind.u8 0).cells=#[.int .u8 0]from rfl,toList_madeCells_one,Nat.mul_one,List.map_replicate]
  rfl
 rw[hz]at hrow
 refine zQx k (λj t w'=>t=(j:Int)/\zQl w' 5 1 ⟨some ⟨w.heap.size,0,none⟩,k,k⟩ ((zJd n j ++ List.replicate (k - j) 0).map u8V)/\Pu w w') ⟨rfl,by simpa[zJd] using hrow,ar⟩ ?_
 rintro j J t w2 hj ⟨ht,h6,aq⟩ hJ
 obtain rfl:t=(j:Int):=ht
 refine Br.of (λc=>?_) (λc=>?_)
 ·have hjk:j<k:=by have:=zQj c;dsimp only at this;omega
  rw[zQa (n:=8 * (j:Int)) (by omega) (by omega)]
  obtain⟨a,ha,hst⟩:=h6.st1 (j:=j) (by rw[List.length_map,List.length_append,zQ6,List.length_replicate];omega) (.int .u8 (IntKind.u8.wrap ((n:Int).fdiv (2 ^ (min (8 * (j:Int)).toNat 64))))) (K:=λw3=>J (IntKind.i64.wrap ((j:Int)+1)) w3) λw3 h7 hf hs=>by
   rw[zQa (by omega) (by omega)]
   refine hJ _ _ hjk ⟨rfl,?_,aq.andNew hf λb hb=>by simp[zQe]at hb;omega⟩
   have e:(.int .u8 (IntKind.u8.wrap ((n:Int).fdiv (2 ^ (min (8 * (j:Int)).toNat 64)))):Value)=u8V (UInt8.ofNat (n / 256 ^ j % 256)):=by
    rw[zJ3]
    congr 1
    rw[←zYO]
    congr 1
    rw[show(min (8 * (j:Int)).toNat 64)=8 * j by omega,Int.fdiv_eq_ediv_of_nonneg _ (by exact_mod_cast Nat.zero_le _),yJA]
    norm_cast
   rw[e]at h7
   have e2:((zJd n j ++ List.replicate (k - j) 0).map u8V).set j (u8V (UInt8.ofNat (n / 256 ^ j % 256)))=(zJd n (j+1) ++ List.replicate (k - (j+1)) 0).map u8V:=by
    rw[←List.map_set]
    congr 1
    rw[List.set_append,if_neg (by rw[zQ6];omega),zQ6,Nat.sub_self,show k - j=(k - (j+1))+1 by omega,List.replicate_succ,List.set_cons_zero,xQB,List.append_assoc]
    rfl
   rw[←e2];exact h7
  refine⟨by omega,a,ha,by omega,by show(j:Int)<((k:Nat):Int);omega,?_⟩
  rw[zXn,Nat.mul_one]
  exact hst
 ·have hjk:j=k:=by have:=zQd c;dsimp only at this;omega
  subst hjk
  rw[Nat.sub_self,List.replicate_zero,List.append_nil]at h6
  exact⟨_,rfl,⟨h6,λb hb=>by simp[zQe]at hb;omega⟩,aq⟩
theorem zVk:∀{d:List UInt8} {j:Nat} {b:UInt8},d[j]?=some b->zQW (d.take (j+1))=zQW (d.take j)+b.toNat * 256 ^ j
 | [],j,b,h=>by simp at h
 | c :: d,0,b,h=>by simp at h;subst h;simp[zQW]
 | c :: d,j+1,b,h=>by
  have h:d[j]?=some b:=by simpa using h
  rw[List.take_succ_cons,List.take_succ_cons,zQW,zQW,zVk h,Nat.pow_succ,Nat.mul_add,Nat.add_assoc]
  congr 2
  rw[Nat.mul_comm 256,Nat.mul_assoc]
theorem yXl:∀d:List UInt8,zQW d<256 ^ d.length
 | []=>by simp[zQW]
 | c :: d=>by
  have h1:=yXl d
  have h2:=c.toNat_lt
  rw[zQW,List.length_cons,Nat.pow_succ]
  omega
theorem xYe{a b j:Nat}(ha:a<2 ^ j):a ||| (b * 2 ^ j)=a+b * 2 ^ j:=by
 rw[Nat.or_comm,←Nat.shiftLeft_eq,←Nat.shiftLeft_add_eq_or_of_lt ha,Nat.add_comm]
theorem xYb(b:UInt8):b.toNat<256:=b.toNat_lt
theorem yXq{s:SV}{d:List UInt8}(h:ByV w s d)(hd:d.length<=7):Calls prog 126 #[slV s] w λe w'=>e=.returned (.int .i64 (zQW d:Nat))/\Pu w w':=by
 have hl:=h.len
 refine yWU _ w _ ?_
 refine zQx d.length (λj t w'=>t.2=(j:Int)/\t.1=((zQW (d.take j):Nat):Int)/\Pu w w') ⟨rfl,rfl,Pu.refl _⟩ ?_
 rintro j J ⟨t1,t2⟩ w2 hj ⟨h2,h1,hp⟩ hJ
 obtain rfl:t2=(j:Int):=h2
 obtain rfl:t1=((zQW (d.take j):Nat):Int):=h1
 dsimp only
 refine Br.of (λc=>?_) (λc=>?_)
 ·have hjk:j<d.length:=by have:=zQj c;omega
  obtain⟨b,hb⟩:=zQK hjk
  obtain⟨a,ha,hc⟩:=(h.pu hp).get j b hb
  have hB:=xYb b
  have hlt:=yXl (d.take j)
  rw[List.length_take,Nat.min_eq_left (by omega),yJA]at hlt
  have cy:(2:Nat) ^ (8 * j)<=2 ^ 48:=Nat.pow_le_pow_right (by decide) (by omega)
  have hmul:b.toNat * 2 ^ (8 * j)<=255 * 2 ^ 48:=Nat.mul_le_mul (by omega) cy
  refine⟨a,ha,by omega,by omega,_,by rw[zXn];exact hc,?_⟩
  rw[zQa (n:=8 * (j:Int)) (by omega) (by omega)]
  refine⟨by omega,?_⟩
  have e0:(min (8 * (j:Int)).toNat 64)=8 * j:=by omega
  have e1:IntKind.i64.wrap (IntKind.i64.wrap ((b.toNat:Nat):Int) * 2 ^ (8 * j))=((b.toNat * 2 ^ (8 * j):Nat):Int):=by
   rw[zQa (n:=((b.toNat:Nat):Int)) (by omega) (by omega),show((b.toNat:Nat):Int) * 2 ^ (8 * j)=((b.toNat * 2 ^ (8 * j):Nat):Int)by norm_cast]
   exact zQa (by omega) (by omega)
  have e2:(BitVec.ofInt 64 ((zQW (d.take j):Nat):Int) ||| BitVec.ofInt 64 ((b.toNat * 2 ^ (8 * j):Nat):Int)).toNat=zQW (d.take (j+1)):=by
   rw[BitVec.toNat_or,BitVec.toNat_ofInt,BitVec.toNat_ofInt]
   have m1:(((zQW (d.take j):Nat):Int) % ((2 ^ 64:Nat):Int)).toNat=zQW (d.take j):=by
    rw[Int.emod_eq_of_lt (by omega) (by have p48:(2:Nat) ^ 48=281474976710656:=(by decide);have p64:(2:Nat) ^ 64=18446744073709551616:=(by decide);omega)]
    rfl
   have m2:(((b.toNat * 2 ^ (8 * j):Nat):Int) % ((2 ^ 64:Nat):Int)).toNat=b.toNat * 2 ^ (8 * j):=by
    rw[Int.emod_eq_of_lt (by omega) (by have p48:(2:Nat) ^ 48=281474976710656:=(by decide);have p64:(2:Nat) ^ 64=18446744073709551616:=(by decide);omega)]
    rfl
   rw[m1,m2,xYe hlt,zVk hb,yJA]
  rw[e0,e1,e2]
  have hfin:zQW (d.take (j+1))<=2 ^ 48+255 * 2 ^ 48:=by rw[zVk hb,yJA];omega
  rw[zQa (by omega) (by have p48:(2:Nat) ^ 48=281474976710656:=(by decide);omega),zQa (by omega) (by omega)]
  exact hJ _ _ hjk ⟨rfl,rfl,hp⟩
 ·have hjk:j=d.length:=by have:=zQd c;omega
  subst hjk
  refine⟨?_,hp⟩
  rw[List.take_length]
theorem xXw(l:List UInt8)(c:UInt8):yXd (l ++ [c])=yV6 (yXd l) c:=by
 unfold yXd;rw[List.foldl_append,List.foldl_cons,List.foldl_nil]
theorem yVR{m:Nat}(h:m<2 ^ 32):(BitVec.ofInt 32 (m:Int)).toNat=m:=by
 rw[BitVec.toNat_ofInt,Int.emod_eq_of_lt (by omega) (by exact_mod_cast h)];rfl
theorem step32(n:Nat)(b:UInt8):IntKind.u32.wrap ((BitVec.ofInt 32 (IntKind.u32.wrap ((n:Int) * 16777619)) ^^^ BitVec.ofInt 32 (IntKind.u32.wrap ((b.toNat:Nat):Int))).toNat:Nat)=((yV6 n b:Nat):Int):=by
 unfold yV6
 have hc:=xYb b
 generalize b.toNat=c at hc ⊢
 have e1:IntKind.u32.wrap ((n:Int) * 16777619)=((n * 16777619 % 4294967296:Nat):Int):=by rw[IntKind.wrap_u32];omega
 have e2:IntKind.u32.wrap (c:Int)=(c:Int):=by rw[IntKind.wrap_u32];omega
 have hm:n * 16777619 % 4294967296<4294967296:=Nat.mod_lt _ (by decide)
 rw[e1,e2]
 generalize n * 16777619 % 4294967296=m at hm ⊢
 have p32:(2:Nat) ^ 32=4294967296:=by decide
 rw[BitVec.toNat_xor,yVR (by omega),yVR (by omega)]
 have hx:m ^^^ c<2 ^ 32:=Nat.xor_lt_two_pow (by omega) (by omega)
 generalize m ^^^ c=y at hx ⊢
 rw[IntKind.wrap_u32]
 omega
theorem sum_c{s:SV}{d:List UInt8}(h:ByV w s d):Calls prog 127 #[slV s] w λe w'=>e=.returned (.int .i64 (yXd d:Nat))/\Pu w w':=by
 have hl:=h.len
 have hlim:=h.lim
 refine yKT _ w _ ?_
 refine zQx d.length (λj t w'=>t.2=(j:Int)/\t.1=((yXd (d.take j):Nat):Int)/\Pu w w') ⟨rfl,rfl,Pu.refl _⟩ ?_
 rintro j J ⟨t1,t2⟩ w2 hj ⟨h2,h1,hp⟩ hJ
 obtain rfl:t2=(j:Int):=h2
 obtain rfl:t1=((yXd (d.take j):Nat):Int):=h1
 dsimp only
 have hlt:=yJx (d.take j)
 refine Br.of (λc=>?_) (λc=>?_)
 ·have hjk:j<d.length:=by have:=zQj c;omega
  obtain⟨b,hb⟩:=zQK hjk
  obtain⟨a,ha,hc⟩:=(h.pu hp).get j b hb
  have hB:=xYb b
  refine⟨a,ha,by omega,by omega,_,by rw[zXn];exact hc,?_⟩
  rw[step32,zQa (by omega) (by omega)]
  exact hJ _ _ hjk ⟨rfl,by rw[zQC hb,xXw],hp⟩
 ·have hjk:j=d.length:=by have:=zQd c;omega
  subst hjk
  rw[List.take_length]at hlt ⊢
  generalize yXd d=x at hlt ⊢
  refine⟨?_,hp⟩
  rw[zQa (by omega) (by omega)]
end Go.Proofs.YtaeecpjhfmcliaaGreatDoor
/- The log: records are made and taken off; writes are done; files are copied. No condition but those stated. -/
namespace Go.Proofs.YtaeecpjhfmcliaaGreatDoor
open Go.Sh Go.RowKit Tryz
variable {w w' : World}
def NextR(w:World)(s:SV)(d:List UInt8):Rt:=λe w'=>Pu w w'/\∃(k:Int) (q1 q2:SV) (b:Bool),e=.returned (.tuple #[.int .u8 k,slV q1,slV q2,.bool b])/\
 ((b=false/\zZ2 d=none)∨b=true/\∃kk body more,zZ2 d=some (kk,body,more)/\k=((kk.toNat:Nat):Int)/\∀wv,ByV wv s d->ByV wv q1 body/\ByV wv q2 more)
theorem ByV.rest{s:SV}{d:List UInt8}(h:ByV w s d){lo:Nat}(hlo:lo<=d.length):ByV w ⟨if s.cap=lo then s.a else s.a.map (λx=>x.add (lo * 1)),s.len - lo,s.cap - lo⟩ (d.drop lo):=by
 have hl:=h.len
 have h1:=h.sub (lo:=lo) (hi:=d.length) hlo (Nat.le_refl _)
 rw[←hl,List.take_of_length_le (by rw[List.length_drop];omega)]at h1
 exact h1
theorem next_c{s:SV}{d:List UInt8}(h:ByV w s d)(hd:d.length<=1000000000):Calls prog 88 #[slV s] w (NextR w s d):=by
 have hl:=h.len
 have hc:=h.cap
 refine xQx _ w _ (Br.of (λc=>?_) (λc=>?_))
 ·have c:=zQj c
  exact⟨Pu.refl _,0,⟨none,0,0⟩,⟨none,0,0⟩,false,rfl,.inl ⟨rfl,by unfold zZ2;rw[if_pos (by omega)]⟩⟩
 have c:=zQd c
 refine⟨by omega,by show 5<=s.cap;omega,by omega,by decide,?_⟩
 have rU:=h.sub (lo:=1) (hi:=5) (by omega) (by omega)
 refine(yXq rU (by rw[List.length_take];omega)).mono ?_
 rintro e w2 ⟨rfl,aq⟩
 refine⟨_,rfl,zQc λw3 au _=>?_⟩
 obtain⟨n,en⟩:∃n,n=zQW ((d.drop 1).take (5 - 1)):=⟨_,rfl⟩
 rw[←en]
 have hn:n<4294967296:=by
  have:=yXl ((d.drop 1).take (5 - 1))
  rw[←en,List.length_take,List.length_drop,Nat.min_eq_left (by omega)]at this
  exact this
 have aV:=aq.trans au
 rw[zQa (n:=((s.len:Nat):Int) - 5) (by omega) (by omega),zQa (n:=((s.len:Nat):Int) - 5 - 4) (by omega) (by omega)]
 refine Br.of (λc1=>?_) (λc1=>?_)
 ·have c1:=zQj c1
  exact⟨aV,0,⟨none,0,0⟩,⟨none,0,0⟩,false,rfl,.inl ⟨rfl,by unfold zZ2;rw[if_neg (by omega),if_pos (by show d.length<zQW ((d.drop 1).take (5 - 1))+9;rw[←en];omega)]⟩⟩
 have c1:=zQd c1
 rw[zQa (n:=(5:Int)+(n:Int)) (by omega) (by omega),zQa (n:=(5:Int)+(n:Int)+4) (by omega) (by omega)]
 have t1:((5:Int)+(n:Int)).toNat=5+n:=by omega
 have t2:((5:Int)+(n:Int)+4).toNat=9+n:=by omega
 rw[t1,t2]
 have rM:=(h.pu aV).sub (lo:=5+n) (hi:=9+n) (by omega) (by omega)
 refine⟨by omega,by omega,by omega,by omega,by omega,by omega,by omega,(yXq rM (by rw[List.length_take];omega)).mono ?_⟩
 rintro e w5 ⟨rfl,aT⟩
 have eE:=aV.trans aT
 have qn:=(h.pu eE).sub (lo:=0) (hi:=5+n) (by omega) (by omega)
 refine⟨_,rfl,(sum_c qn).mono ?_⟩
 rintro e w6 ⟨rfl,bE⟩
 have eJ:=eE.trans bE
 rw[List.drop_zero,Nat.sub_zero,show 9+n - (5+n)=4 by omega]
 refine⟨_,rfl,Br.of (λc2=>?_) (λc2=>zQc λw8 bW _=>?_)⟩
 ·have c2:¬zQW ((d.drop (5+n)).take 4)=yXd (d.take (5+n)):=λe=>zQw c2 (by rw[e])
  exact⟨eJ,0,⟨none,0,0⟩,⟨none,0,0⟩,false,rfl,.inl ⟨rfl,by
   unfold zZ2
   rw[show(d.drop 1).take 4=(d.drop 1).take (5 - 1)from rfl,←en,if_neg (by omega),if_neg (by omega),if_pos c2]⟩⟩
 ·have c2:zQW ((d.drop (5+n)).take 4)=yXd (d.take (5+n)):=by have:=zQq c2;omega
  have h8:=h.pu (eJ.trans bW)
  obtain⟨b0,e0⟩:=zQK (l:=d) (k:=0) (by omega)
  obtain⟨a,ha,hc0⟩:=h8.get 0 b0 e0
  refine⟨a,ha,by omega,by omega,_,hc0,by omega,by omega,by omega,by show 5<=5+n;omega,hc,by omega,by omega,eJ.trans bW,_,⟨_,_,_⟩,⟨_,_,_⟩,true,rfl,.inr ⟨rfl,b0,(d.drop 5).take n,d.drop (9+n),?_,rfl,λwv hv=>⟨?_,hv.rest (lo:=9+n) (by omega)⟩⟩⟩
  ·unfold zZ2
   rw[show(d.drop 1).take 4=(d.drop 1).take (5 - 1)from rfl,←en,if_neg (by omega),if_neg (by omega),if_neg (by rw[c2];simp)]
   have:d.headD 0=b0:=by cases d with
    | nil=>simp at e0
    | cons x d=>simpa using e0
   rw[this]
  ·have aA:=hv.sub (lo:=5) (hi:=5+n) (by omega) (by omega)
   rw[show 5+n - 5=n by omega]at aA
   rw[show((5:Int)).toNat=5 from rfl,show 5+n - 5=n by omega]
   exact aA
theorem yZp {w0:World} {s m:SV} {l:List UInt8} {g:Nat} (h:zQi w0 w s l) (hg:s.a=some ⟨g,0,none⟩) {lo n c:Nat} {src:List UInt8} (hm:ByV w m src) (hne:src ≠ []) (hn:src.length=n) (hfit:lo+n<=l.length) :
  ∃w',(Builtin.copy_ #[22,22] 3 #[.slice (some ⟨g,lo,none⟩) n c,slV m]).run prog w=.ok (.int .i64 (n:Nat)) w'/\zQi w0 w' s (l.take lo ++ src ++ l.drop (lo+n))/\Fr (· ∈ zQe s) w w':=by
 have hl:=h.len
 have hml:=hm.len
 have hsz:(prog.info? 5).map (·.size)=some 1:=by
  have:=vi5
  simp only[Option.map_eq_some_iff]at *
  obtain⟨i,h1,h2⟩:=this
  exact⟨i,h1,by simp at h2;exact h2.2.1⟩
 obtain⟨hrow,hnew⟩:=h
 obtain⟨h1,hd|⟨g',cur,h3,h4,h5,h6,h7,h8⟩⟩:=hrow
 ·rw[hd]at hg;cases hg
 rw[hg]at h3
 obtain rfl:g=g':=by simpa using h3
 obtain⟨b0,sO⟩:=zQK (l:=src) (k:=0) (List.length_pos_iff.2 hne)
 obtain⟨a,ha,_⟩:=hm.get 0 b0 sO
 have hr:=run_copy_row prog (ty:=3) w 22 22 5 g lo n c a m.len m.cap cur 5 (src.map u8V) vu22 hsz h4 (by rw[List.length_map,hn,hml,hn];exact(Nat.min_self n).symm) (λj v hv=>by
  obtain⟨b,hb,rfl⟩:∃b,src[j]?=some b/\u8V b=v:=by simpa using hv
  obtain⟨a',e,hc⟩:=hm.get j b hb
  rw[ha]at e;cases e
  rw[Nat.mul_one]at hc
  exact hc) (by rw[List.length_map,hn,h7];omega) (λv hv=>by obtain⟨b,_,rfl⟩:=List.mem_map.1 hv;rfl)
 rw[List.length_map,hn]at hr
 rw[Nat.mul_one]at h8
 refine⟨_,by show(Builtin.copy_ #[22,22] 3 #[.slice (some ⟨g,lo,none⟩) n c,.slice m.a m.len m.cap]).run prog w=_;rw[ha];exact hr,⟨⟨?_,.inr ⟨g,_,hg,setRow_heap w g cur _ 5 (0,0) h4,h5,h6,?_,?_⟩⟩,hnew⟩,⟨rfl,rfl,rfl,by simp,λk _ hk=>setRow_other w g k _ (λe=>hk (by simp[zQe,hg,e]))⟩⟩
 ·simp;omega
 ·simp;omega
 ·have hll:l.length<=cur.size:=by rw[h7];omega
  rw[Nat.mul_one]
  simp only[List.map_append,List.map_take,List.map_drop,←h8]
  have e1:cur.toList=cur.toList.take s.len ++ cur.toList.drop s.len:=(List.take_append_drop _ _).symm
  apply List.ext_getElem?
  intro j
  have hcl:cur.toList.length=cur.size:=by simp
  simp only[List.getElem?_take,List.getElem?_append,List.length_append,List.length_take,List.length_map,List.getElem?_drop,hcl,hn]
  by_cases hj:j<s.len
  ·rw[if_pos hj]
   by_cases h0:j<lo
   ·rw[if_pos (by omega),if_pos (by omega),if_pos h0,if_pos (by omega),if_pos (by omega),if_pos h0,if_pos hj]
   ·by_cases h2:j<lo+n
    ·rw[if_pos (by omega),if_neg (by omega),if_pos (by omega),if_neg (by omega)]
     congr 1;omega
    ·rw[if_neg (by omega),if_neg (by omega),if_pos (by omega)]
     congr 1;omega
  ·rw[if_neg hj,if_neg (by omega),if_neg (by omega)]
theorem yVj(n:Nat)(hn:n<=1000000000)(w:World):∃w',(Instr.makeSlice 22 (.int .i64 (n:Int)) (.int .i64 (n:Int))).run prog w=.ok (slV ⟨some ⟨w.heap.size,0,none⟩,n,n⟩) w'/\zQi w w' ⟨some ⟨w.heap.size,0,none⟩,n,n⟩ (List.replicate n 0)/\Pu w w':=by
 obtain⟨i,h2,h3,h4,h5⟩:=info_parts vi5
 obtain⟨w1,hr,hrow,ar,hz1⟩:=yXu (P:=prog) (w:=w) vu22 h2 h3 h4 .i64 .i64 n (by rw[h5];omega) (by omega)
 refine⟨w1,hr,⟨?_,λb hb=>by simp[zQe]at hb;omega⟩,ar⟩
 rw[show(Value.int IntKind.u8 0).cells=#[.int .u8 0]from rfl,toList_madeCells_one,Nat.mul_one]at hrow
 rw[List.map_replicate]
 exact hrow
theorem zQi.st1 {w0:World} {s:SV} {l:List UInt8} (h:zQi w0 w s l) {j:Nat} (hj:j<l.length) (b:UInt8) {K:World->Prop} (hK:∀w',zQi w0 w' s (l.set j b)->Fr (· ∈ zQe s) w w'->w'.heap.size=w.heap.size->K w') :
  ∃a,s.a=some a/\Sh.st1 (a.add (j * 1)) (u8V b) w K:=by
 obtain⟨a,ha,hst⟩:=h.1.st1 (j:=j) (by rw[List.length_map];exact hj) (u8V b) (K:=K) λw' h1 hf hs=>hK w' ⟨by rw[List.map_set];exact h1,h.2⟩ hf hs
 exact⟨a,ha,by rw[Nat.mul_one];exact hst⟩
theorem zQi.st1G {w0:World} {s:SV} {l:List UInt8} (h:zQi w0 w s l) {i:Int} {j:Nat} (hi:i=(j:Int)) (hj:j<l.length) (b:UInt8) {K:World->Prop} (hK:∀w',zQi w0 w' s (l.set j b)->Fr (· ∈ zQe s) w w'->w'.heap.size=w.heap.size->K w') :
  ∃a,s.a=some a/\0<=i/\i<((s.len:Nat):Int)/\Sh.st1 (a.add (i.toNat * 1)) (u8V b) w K:=by
 obtain⟨a,ha,hst⟩:=h.st1 hj b hK
 have hl:=h.len
 subst hi
 exact⟨a,ha,by omega,by omega,by rw[zXn];exact hst⟩
theorem yKk (kind:UInt8) {s:SV} {body:List UInt8} (h:ByV w s body) (hne:body ≠ []) (hb:body.length<=1000000):Calls prog 111 #[u8V kind,slV s] w λe w'=>∃q:SV,e=.returned (slV q)/\zQi w w' q (zZV kind body)/\Pu w w':=by
 have hl:=h.len
 have hpos:=List.length_pos_iff.2 hne
 obtain⟨w1,hr1,n1,ar⟩:=yVj (5+body.length) (by omega) w
 refine yVq _ _ w _ ⟨⟨some ⟨w.heap.size,0,none⟩,5+body.length,5+body.length⟩,w1,?_,?_⟩
 ·rw[hl,zQa (by omega) (by omega),show(5:Int)+((body.length:Nat):Int)=((5+body.length:Nat):Int)by omega];exact hr1
 refine n1.st1G (j:=0) rfl (by rw[List.length_replicate];omega) kind λw3 n3 fS hz3=>zQc λw4 aK _=>?_
 ·have hB:∀b ∈ zQe (⟨some ⟨w.heap.size,0,none⟩,5+body.length,5+body.length⟩:SV),w.heap.size<=b:=n1.2
  have au:Pu w w3:=ar.andNew fS hB
  have ct:=au.trans aK
  refine⟨by omega,by show 5<=5+body.length;omega,by omega,by decide,?_⟩
  rw[show((s.len:Nat):Int)=((body.length:Nat):Int)by omega]
  refine(yJ9 body.length 4 (by omega) (by omega) w4).mono ?_
  rintro e w5 ⟨q5,rfl,n5,aT⟩
  have m5:=(n3.pu aK).pu aT
  have l0:((List.replicate (5+body.length) (0:UInt8)).set 0 kind).length=5+body.length:=by simp
  obtain⟨w6,hr6,n6,jf⟩:=yZp (lo:=1) (n:=4) (c:=5+body.length - 1) m5 rfl (n5.by (by rw[zQ6];omega)) (λe=>by have:=congrArg List.length e;rw[zQ6]at this;simp at this) (zQ6 _ _) (by rw[l0];omega)
  have eJ:Pu w w6:=(ct.trans aT).andNew jf hB
  refine⟨q5,rfl,((4:Nat):Int),w6,?_,Nat.le_refl _,by omega,by show 5<=5+body.length;omega,?_⟩
  ·rw[if_neg (by show ¬5+body.length=1;omega)];exact hr6
  obtain⟨w7,nT,n7,m0⟩:=yZp (lo:=5) (n:=body.length) (c:=5+body.length - 5) n6 rfl (h.pu eJ) hne rfl (by simp[zQ6];omega)
  have gg:Pu w w7:=eJ.andNew m0 hB
  refine⟨((body.length:Nat):Int),w7,?_,?_⟩
  ·rw[if_neg (by show ¬5+body.length=5;omega),show 5+body.length - (5:Int).toNat=body.length by show 5+body.length - 5=_;omega]
   rw[show 5+body.length - 5=body.length by omega]at nT
   exact nT
  have hrow:((List.replicate (5+body.length) (0:UInt8)).set 0 kind).take 1=[kind]:=by
   rw[show 5+body.length=(4+body.length)+1 by omega,List.replicate_succ,List.set_cons_zero];rfl
  have hrow7:((((List.replicate (5+body.length) (0:UInt8)).set 0 kind).take 1 ++ zJd body.length 4 ++ ((List.replicate (5+body.length) (0:UInt8)).set 0 kind).drop (1+4)).take 5 ++ body ++ (((List.replicate (5+body.length) (0:UInt8)).set 0 kind).take 1 ++ zJd body.length 4 ++ ((List.replicate (5+body.length) (0:UInt8)).set 0 kind).drop (1+4)).drop (5+body.length))=zKb kind body:=by
   have h5:([kind] ++ zJd body.length 4).length=5:=by simp[zQ6]
   rw[hrow,List.take_append_of_le_length (by omega),List.take_of_length_le (by omega),List.drop_eq_nil_of_le (by simp[zQ6];omega),List.append_nil]
   unfold zKb;simp
  rw[hrow7]at n7
  have hhl:=zWQ kind body
  refine(sum_c (s:=⟨some ⟨w.heap.size,0,none⟩,5+body.length,5+body.length⟩) (n7.by (by omega))).mono ?_
  rintro e w8 ⟨rfl,bW⟩
  have hslt:=yJx (zKb kind body)
  refine⟨_,rfl,(yJ9 (yXd (zKb kind body)) 4 (by omega) (by omega) w8).mono ?_⟩
  rintro e w9 ⟨q9,rfl,n9,cE⟩
  have m9:=(n7.pu bW).pu cE
  have mU:=(gg.trans bW).trans cE
  obtain⟨q,aP,wT,iU,mO⟩:=m9.app mU.size (m:=q9) (news:=zJd (yXd (zKb kind body)) 4) n9.len (λj b hj=>n9.cell hj) (by rw[zQ6];omega)
  exact⟨q9,rfl,q,aP,wT,q,rfl,iU,mU.andNew mO hB⟩
end Go.Proofs.YtaeecpjhfmcliaaGreatDoor
/- The log: writes are done; files are copied. No condition but those stated. -/
namespace Go.Proofs.YtaeecpjhfmcliaaGreatDoor
open Go.Sh Go.RowKit Tryz
variable {w w' : World}
theorem files_row {s q0 q1:SV} {F:Fls} (h:zQl w 22 1 s [slV q0,slV q1]) (h0:ByV w q0 F.1) (h1:ByV w q1 F.2):zXP w s q0 q1 F:=by
 have hl:=h.1
 obtain⟨a,ha,c0,_⟩:=h.cell (j:=0) (v:=slV q0) rfl
 obtain⟨a',ha',c1,_⟩:=h.cell (j:=1) (v:=slV q1) rfl
 rw[ha]at ha';cases ha'
 simp at hl
 exact⟨by omega,by have:=h.le_cap.1;omega,⟨a,ha,c0,c1⟩,h0,h1⟩
def zZG(B:Nat->Prop)(w:World)(s q0 q1:SV)(F:Fls):Prop:=∀w2,Fr B w w2->zXP w2 s q0 q1 F
theorem zZG.at_{B:Nat->Prop}{s q0 q1:SV}{F:Fls}(h:zZG B w s q0 q1 F):zXP w s q0 q1 F:=h w (Fr.refl _ _)
theorem zZG.pu{B:Nat->Prop}{s q0 q1:SV}{F:Fls}(h:zZG B w s q0 q1 F)(hp:Pu w w'):zZG B w' s q0 q1 F:=λw2 h2=>h w2 ((Fr.pu hp:Fr B w w').trans h2 λb hb _=>hb)
theorem yKe(a b:Int)(w:World):(Builtin.min_ #[3,3] 3 #[.int .i64 a,.int .i64 b]).run prog w=.ok (.int .i64 (min a b)) w:=by
 have e:(if b<a then b else a)=min a b:=by split <;> omega
 rw[←e]
 simp[Builtin.min_,Builtin.min2]
theorem ByV.front{s:SV}{d:List UInt8}(h:ByV w s d){n:Nat}(hn:n<=d.length):ByV w ⟨if s.cap=0 then s.a else s.a.map (λx=>x.add (0 * 1)),n - 0,s.cap - 0⟩ (d.take n):=by
 have:=h.sub (lo:=0) (hi:=n) (Nat.zero_le _) hn
 rw[List.drop_zero,Nat.sub_zero]at this
 exact this
theorem done_c{B:Nat->Prop}{x:Wr}{q s q0 q1:SV}{F:Fls}(hB:∀b,B b->b<w.heap.size)(hs:zZG B w s q0 q1 F)(hq:ByV w q x.b)(hf:x.file=0∨x.file=1)(hat:0<=x.at_)(hF:F.1.length<=900000000/\F.2.length<=900000000)(hb:x.b.length<=1000000)(k:Int) :
  Calls prog 76 #[.agg #[.int .i64 x.file,.int .i64 x.at_,slV q],slV s,.int .i64 k] w λe w'=>∃o r0 r1:SV,e=.returned (slV o)/\zZG B w' o r0 r1 (zJb F x k)/\Pu w w':=by
 refine xQ7 _ _ _ _ _ w _ (alB λw1 ar aA=>(yYq (hs.pu ar).at_).mono ?_)
 rintro e w2 ⟨o,rfl,ho,hon,aq⟩
 have aE:=ar.trans aq
 have nX:w.heap.size<w1.heap.size:=zQy aA
 -- what a row of files that is new tells, whatever is written elsewhere
 have kept:∀{wz:World} {r0 r1:SV} {G:Fls},zQl wz 22 1 o [slV r0,slV r1]->Pu w wz->(∀w3,Fr B wz w3->ByV w3 r0 G.1/\ByV w3 r1 G.2)->zZG B wz o r0 r1 G:=λ{wz r0 r1 G} hr hpz hG w3 h3=>
  files_row (hr.fr h3 λb hb e=>by have:=hon b hb;have:=hB b e;omega) (hG w3 h3).1 (hG w3 h3).2
 have old:∀{wz:World},Pu w wz->∀w3,Fr B wz w3->ByV w3 q0 F.1/\ByV w3 q1 F.2:=λhpz w3 h3=>by
  have:=hs.pu hpz w3 h3
  exact⟨this.b0,this.b1⟩
 refine⟨o,rfl,Br.of (λc=>?_) (λc=>?_)⟩
 ·rw[zJw F x (zQj c)]
  exact⟨o,q0,q1,rfl,kept ho aE (old aE),aE⟩
 have c:=zQd c
 refine zQc λw4 aK _=>?_
 have ct:=aE.trans aK
 have iy:=aK.blk (aq.blk aA)
 have xE:=ho.pu aK
 have nb:∀{wz w3:World} {b:SV} {l:List UInt8},zQi w wz b l->Fr B wz w3->l.length<=2000000000->ByV w3 b l:=λhn h3 hl=>(hn.fr h3 λk hk e=>by have:=hn.2 k hk;have:=hB k e;omega).by (by omega)
 obtain⟨i,hi,hi2,qi,di,hrow,hbi,hdi,hdl,hput⟩:∃i:Nat,x.file=(i:Int)/\i<2/\∃(qi:SV) (di:List UInt8),[slV q0,slV q1][i]?=some (slV qi)/\(∀{wz:World},Pu w wz->ByV wz qi di)/\F.get x.file=di/\di.length<=900000000/\
   ∀{wz:World} {b:SV} {l:List UInt8},zQl wz 22 1 o ([slV q0,slV q1].set i (slV b))->Pu w wz->zQi w wz b l->l.length<=2000000000->∃r0 r1,zZG B wz o r0 r1 (F.put x.file l):=by
  rcases hf with hf|hf
  ·refine⟨0,hf,by omega,q0,F.1,rfl,λhpz=>(hs.pu hpz).at_.b0,by rw[hf];rfl,hF.1,λ{wz b l} hr hpz hn hl=>⟨b,q1,?_⟩⟩
   rw[hf]
   exact kept hr hpz λw3 h3=>⟨nb hn h3 hl,(old hpz w3 h3).2⟩
  ·refine⟨1,hf,by omega,q1,F.2,rfl,λhpz=>(hs.pu hpz).at_.b1,by rw[hf];rfl,hF.2,λ{wz b l} hr hpz hn hl=>⟨q0,b,?_⟩⟩
   rw[hf]
   exact kept hr hpz λw3 h3=>⟨(old hpz w3 h3).1,nb hn h3 hl⟩
 have hol:o.len=2:=by have:=xE.1;simp at this;omega
 obtain⟨a5,ha5,c5,_⟩:=xE.cell hrow
 obtain⟨n,hn⟩:∃n:Nat,(n:Int)=min x.at_ di.length:=⟨(min x.at_ di.length).toNat,by omega⟩
 have wU:=hbi ct
 have hql:=wU.len
 have hqc:=wU.cap
 have xP:n<=di.length:=by omega
 refine⟨λu=>Pu w4 u,Pu.refl _,x.file,λu hu=>cl0 (hu.blk iy),a5,ha5,by omega,by omega,qi,λu hu=>hu.cell (by rw[hi,zXn,Nat.mul_one];exact c5),x.at_,λu hu=>cl (hu.blk iy) 1,x.file,λu hu=>cl0 (hu.blk iy),a5,ha5,by omega,by omega,qi,
  λu hu=>hu.cell (by rw[hi,zXn,Nat.mul_one];exact c5),(n:Int),w4,by rw[hql,hn];exact yKe _ _ _,Pu.refl _,by omega,by omega,by omega,?_⟩
 rw[zXn]
 refine(xZV (wU.front xP) (by rw[List.length_take];omega)).mono ?_
 rintro e w8 ⟨q8,rfl,n8,bW⟩
 have dP:=ct.trans bW
 have qp:=bW.blk iy
 have ho8:=xE.pu bW
 have n80:=n8.low ct.size
 have kn:∀{wz:World} {b:SV} {l:List UInt8},Pu w wz->zQl wz 22 1 o [slV q0,slV q1]->zQi w wz b l->l=(F.get x.file).take (min x.at_ (F.get x.file).length).toNat ++ x.b.take k.toNat->wz.heap[w.heap.size]?=some (.cells #[.int .i64 x.file,.int .i64 x.at_,slV q] 90)->
   ∃ku:Int,wz.cell? (⟨w.heap.size,0,none⟩:Addr)=some (.int .i64 ku)/\∃dI:Addr,o.a=some dI/\0<=ku/\ku<((o.len:Nat):Int)/\Sh.st1 (dI.add (ku.toNat * 1)) (slV b) wz λaQ=>∃o' r0 r1:SV,(Ending.returned (slV o)=.returned (slV o'))/\zZG B aQ o' r0 r1 (zJb F x k)/\Pu w aQ:=λ{wz b l} hpz hrz hnz hl hbz=>by
  obtain⟨a,ha,hst⟩:=hrz.st1 (j:=i) (by simpa using hi2) (slV b) (K:=λaQ=>∃o' r0 r1:SV,(Ending.returned (slV o)=.returned (slV o'))/\zZG B aQ o' r0 r1 (zJb F x k)/\Pu w aQ) λaQ mT eH hs12=>by
   have dO:Pu w aQ:=hpz.andNew eH λb hb=>by have:=hon b hb;omega
   have hll:l.length<=2000000000:=by
    have h1:=List.length_take_le (min x.at_ (F.get x.file).length).toNat (F.get x.file)
    have h2:(x.b.take k.toNat).length<=x.b.length:=by rw[List.length_take];exact Nat.min_le_right _ _
    have h3:((F.get x.file).take (min x.at_ (F.get x.file).length).toNat).length<=(F.get x.file).length:=by rw[List.length_take];exact Nat.min_le_right _ _
    rw[hl,List.length_append]
    rw[hdi]at h3 ⊢
    omega
   obtain⟨r0,r1,hK⟩:=hput mT dO (hnz.fr eH (zQr hnz.1 hrz (by decide))) hll
   refine⟨o,r0,r1,rfl,?_,dO⟩
   rw[zKj F x (by omega),←hl]
   exact hK
  exact⟨x.file,cl0 hbz,a,ha,by omega,by omega,by rw[hi,zXn,Nat.mul_one];exact hst⟩
 have htk:di.take n=(F.get x.file).take (min x.at_ (F.get x.file).length).toNat:=by rw[hdi];congr 1;omega
 refine⟨q8,rfl,q,cl qp 2,Br.of (λc1=>?_) (λc1=>?_)⟩
 ·have c1:=zQj c1
  have hqw:=hq.pu dP
  have hqwl:=hqw.len
  have hqwc:=hqw.cap
  obtain⟨m,hm⟩:∃m:Nat,(m:Int)=min k x.b.length:=⟨(min k x.b.length).toNat,by omega⟩
  have xA:m<=x.b.length:=by omega
  have hmf:=hqw.front xA
  obtain⟨q9,w9,hr9,n9,pz⟩:=n80.app (by have:=dP.size;omega) (m:=⟨if q.cap=0 then q.a else q.a.map (λx=>x.add (0 * 1)),m - 0,q.cap - 0⟩) (news:=x.b.take m) hmf.len (λj b hj=>by
   obtain⟨a,ha,hc⟩:=hmf.get j b hj
   exact⟨a,ha,by rw[Nat.mul_one]at hc;exact hc⟩) (by rw[List.length_take,List.length_take];omega)
  have mU:Pu w w9:=dP.andNew pz n80.2
  refine⟨q,cl qp 2,q,cl qp 2,(m:Int),w8,by rw[hqwl,hm];exact yKe _ _ _,by omega,by omega,by omega,?_⟩
  rw[zXn]
  refine⟨q9,w9,hr9,kn mU (ho8.fr pz (zQr ho8 n80.1 (by decide))) n9 ?_ (pz.blk qp λhk=>n80.1.other qp (by decide) hk)⟩
  rw[←htk]
  congr 1
  by_cases hk:k<=x.b.length
  ·congr 1;omega
  ·rw[List.take_of_length_le (by omega),List.take_of_length_le (by omega)]
 ·have c1:=zQd c1
  have sN:x.b=[]:=List.eq_nil_of_length_eq_zero (by have:=hq.len;omega)
  refine kn dP ho8 n80 ?_ qp
  rw[sN,List.take_nil,List.append_nil,←htk]
theorem with_c{B:Nat->Prop}{x:Wr}{q s q0 q1:SV}{F:Fls}(hB:∀b,B b->b<w.heap.size)(hs:zZG B w s q0 q1 F)(hq:ByV w q x.b)(hf:x.file=0∨x.file=1)(hat:0<=x.at_)(hF:F.1.length<=900000000/\F.2.length<=900000000)(hb:x.b.length<=1000000) :
  Calls prog 49 #[slV s,.agg #[.int .i64 x.file,.int .i64 x.at_,slV q]] w λe w'=>∃o r0 r1:SV,e=.returned (slV o)/\zZG B w' o r0 r1 (zQP F x)/\Pu w w':=by
 refine yYU _ _ _ _ w _ (alB λw1 ar aA=>zQc λw2 aq _=>?_)
 have aE:=ar.trans aq
 have cL:=aq.blk aA
 refine⟨λu=>Pu w2 u,Pu.refl _,x.file,λu hu=>cl (hu.blk cL) 0,x.at_,λu hu=>cl (hu.blk cL) 1,q,λu hu=>cl (hu.blk cL) 2,x.file,λu hu=>cl (hu.blk cL) 0,x.at_,λu hu=>cl (hu.blk cL) 1,q,λu hu=>cl (hu.blk cL) 2,?_⟩
 refine xXy _ _ _ w2 _ (alB λw3 au bo=>⟨q,cl bo 2,?_⟩)
 have hql:=hq.len
 rw[show((q.len:Nat):Int)=((x.b.length:Nat):Int)by omega,zQa (by omega) (by omega)]
 refine⟨_,rfl,au,?_⟩
 have aV:=aE.trans au
 refine(done_c (B:=B) (x:=x) (λb hbb=>Nat.lt_of_lt_of_le (hB b hbb) aV.size) (hs.pu aV) (hq.pu aV) hf hat hF hb _).mono ?_
 rintro e w4 ⟨o,r0,r1,rfl,h1,h2⟩
 exact⟨o,rfl,o,r0,r1,rfl,h1,aV.trans h2⟩
structure xXV(w0 w:World)(s q0 q1:SV)(F:Fls):Prop where
 row:zQl w 22 1 s [slV q0,slV q1]
 rn:∀b ∈ zQe s,w0.heap.size<=b
 n0:zQi w0 w q0 F.1
 n1:zQi w0 w q1 F.2
theorem xXV.pu{w0:World}{s q0 q1:SV}{F:Fls}(h:xXV w0 w s q0 q1 F)(hp:Pu w w'):xXV w0 w' s q0 q1 F:=⟨h.row.pu hp,h.rn,h.n0.pu hp,h.n1.pu hp⟩
theorem xXV.keep{w0:World}{s q0 q1:SV}{F:Fls}(h:xXV w0 w s q0 q1 F)(hF:F.1.length<=2000000000/\F.2.length<=2000000000){B:Nat->Prop}(hB:∀b,B b->b<w0.heap.size):zZG B w s q0 q1 F:=λw3 h3=>
 files_row (h.row.fr h3 λb hb e=>by have:=h.rn b hb;have:=hB b e;omega) ((h.n0.fr h3 λb hb e=>by have:=h.n0.2 b hb;have:=hB b e;omega).by (by omega)) ((h.n1.fr h3 λb hb e=>by have:=h.n1.2 b hb;have:=hB b e;omega).by (by omega))
end Go.Proofs.YtaeecpjhfmcliaaGreatDoor
/- The log: files told; a whole table as a record; a row read by itself; some records told. No condition but those stated. -/
namespace Go.Proofs.YtaeecpjhfmcliaaGreatDoor
open Go.Sh Go.RowKit Tryz
variable {w w' : World}
theorem xXH(t:Tbl):zQk t ≠ []:=λh=>by unfold zQk at h;simp at h
theorem xQH{t:Tbl}{f r:SV}(h:zXi w t f r)(hv:zQh t=0):Calls prog 85 #[zKQ t f r] w λe w'=>∃q:SV,e=.returned (slV q)/\zQi w w' q (zZV 119 (zQI t))/\Pu w w':=by
 have hbo:zQI t=zQk t:=by unfold zQI;rw[if_pos hv]
 have hle:=zWd t
 refine yYj _ _ _ w _ (alB λw1 ar aA=>⟨_,cl aA 0,f,cl aA 1,r,cl aA 2,(yQX (h.pu ar) (zXH hv)).mono ?_⟩)
 rintro e w2 ⟨q,rfl,hq,aq⟩
 refine⟨q,_,rfl,(yKk 119 (hq.by (by omega)) (by rw[hbo];exact xXH t) (by omega)).mono ?_⟩
 rintro e w3 ⟨q3,rfl,h3,au⟩
 have aE:=ar.trans aq
 exact⟨q3,rfl,q3,rfl,h3.low aE.size,aE.trans au⟩
theorem yKB{f:Fld}(h:zQo f=true)(p:Int):zQO f p (zXk f)=true:=by
 unfold zQo at h
 simp only[Bool.and_eq_true]at h
 have hk:=h.2
 unfold zWM at hk
 have vz:∀k:Int,okN k 0=true->zXh ⟨k,0,⟨#[]⟩⟩=0:=λk h=>by
  rw[zZ1,if_neg (by show ¬2048<0;omega),if_pos]
  show(okN k 0 && (decide (k=4) || decide ((0:Nat)=0)))=true
  rw[h];simp
 by_cases h5:f.kind=5
 ·unfold zXk zQO
  rw[if_pos h5,if_neg (by rw[vz 2 (by decide)];simp),if_neg (by decide),if_pos h5];decide
 have e:zXk f=⟨f.kind,0,⟨#[]⟩⟩:=by unfold zXk;rw[if_neg h5]
 have hkk:f.kind=1∨f.kind=2∨f.kind=3∨f.kind=4:=by
  by_cases h1:f.kind=1
  ·exact .inl h1
  ·by_cases h2:f.kind=2
   ·exact .inr (.inl h2)
   ·by_cases h3:f.kind=3
    ·exact .inr (.inr (.inl h3))
    ·by_cases h4:f.kind=4
     ·exact .inr (.inr (.inr h4))
     ·rw[if_neg h1,if_neg h2,if_neg h3,if_neg h4,if_neg h5]at hk
      cases hk
 have hv:zXh (zXk f)=0:=by
  rw[e]
  refine vz _ ?_
  rcases hkk with h|h|h|h <;> rw[h] <;> decide
 have base:∀b:Bool,(if f.kind=2 then decide (((zJo 0).length:Int)<=f.width)else if f.kind=4 then decide (((0:Nat):Int)<=f.width) && decide (zZs ([]:List UInt8)=[]) && zXJ [] p else true)=b->zQO f p (zXk f)=b:=λb hb=>by
  unfold zQO
  rw[if_neg (by rw[hv];simp),if_neg (by rw[e];show ¬f.kind=0;omega),if_neg h5,if_neg (by rw[e];simp)]
  rw[e];exact hb
 refine base true ?_
 have hd:(zJo 0).length=1:=by decide +kernel
 rcases hkk with h|h|h|h
 ·rw[if_neg (by omega),if_neg (by omega)]
 ·rw[if_pos h,hd]
  rw[if_neg (by omega),if_pos h]at hk
  simp at hk ⊢;omega
 ·rw[if_neg (by omega),if_neg (by omega)]
 ·rw[if_neg (by omega),if_pos h]
  rw[if_neg (by omega),if_neg (by omega),if_neg (by omega),if_pos h]at hk
  simp at hk
  have:decide (((0:Nat):Int)<=f.width)=true:=by simp;omega
  rw[this];rfl
theorem yVn{x t:Tbl}(hx:zQh x=0)(ht:t.recs.length<=300){rest:List UInt8}(h:zQk x=zJC t ++ rest):x.recs.length=t.recs.length:=by
 obtain⟨d,hd⟩:∃d,d=zQk x:=⟨_,rfl⟩
 obtain⟨_,_,p2,_⟩:=zWE (u:=x) hd.symm
 have hn:=(zQM.of hx).n300
 have h1:=zXm t.recs.length 4
 have q2:(d.drop 2).take 4=zVL t.recs.length 4:=by
  rw[hd,h]
  unfold zJC
  simp only[List.append_assoc,List.cons_append,List.nil_append,List.drop_succ_cons,List.drop_zero]
  rw[List.take_append_of_le_length (by omega),List.take_of_length_le (by omega)]
 have:=congrArg zQW (p2.symm.trans q2)
 rw[←zW7,←zW7,zJz,zJz,Nat.mod_eq_of_lt (by omega),Nat.mod_eq_of_lt (by omega)]at this
 exact this
def RowR(w:World)(t:Tbl)(b:List UInt8):Rt:=λe w'=>Pu w w'/\∃(g:Bool) (q:SV) (ok:Bool),e=.returned (.tuple #[.agg #[.bool g,slV q],.bool ok])/\((ok=false/\yX8 t b=none)∨ok=true/\∃x,yX8 t b=some x/\g=x.gone/\zJH w w' q x.v)
theorem xK9{t:Tbl}{f r s:SV}{b:List UInt8}(hpg:zJe t.page)(hpB:zQV t.page=true)(hf:zX3 w f t.fields)(hvf:zQT t.fields=0)(hb:ByV w s b)(hbl:b.length<=10000):Calls prog 129 #[.agg #[.int .i64 t.page,slV f,slV r],slV s] w (RowR w t b):=by
 obtain⟨hne,hall,_,iP,hwide⟩:=zXl hvf
 have hlim:Lim.ok t.fields:=λg hg=>by
  have:=(zQZ (List.all_eq_true.1 hall g hg)).2.1
  show g.name.size<=140737488355328
  omega
 refine yWI _ _ _ _ w _ (alB λw1 ar aA=>alB λw2 aq aN=>⟨f,cl (aq.blk aA) 1,?_⟩)
 have aE:=ar.trans aq
 refine(xY8 (hf.pu aE) hlim).mono ?_
 rintro e w3 ⟨q3,rfl,hV3,au⟩
 have aV:=aE.trans au
 refine⟨false,q3,_,rfl,alB λw4 aK cI=>zQg cI yWv.symm rfl rfl λw5 bq dq _=>?_⟩
 have cx:Pu w3 w5:=aK.andNew dq λi hi=>by rw[show i=_ from hi];exact Nat.le_refl _
 have eE:=aV.trans cx
 have iN:=cx.blk (au.blk (aq.blk aA))
 have hV5:=hV3.pu cx
 refine⟨_,cl0 iN,f,cl iN 1,false,cl bq 0,q3,cl bq 1,alB λw6 bE gh=>?_⟩
 have eJ:=eE.trans bE
 have hbv:zJm t.fields=t.fields.map zXk:=by unfold zJm;rw[if_pos hvf]
 have hV6:=hV5.pu bE
 -- the table of an empty record alone
 have hright:zQh { t with recs:=[⟨false,zJm t.fields⟩] }=0:=zK9 hpB hvf (by simp) λx hx=>by
  rw[List.mem_singleton.1 hx]
  refine zKB.2 ⟨by rw[hbv];simp,λi g v hg hv=>?_⟩
  rw[hbv,List.getElem?_map,hg]at hv
  cases hv
  exact yKB (List.all_eq_true.1 hall g (List.mem_of_getElem? hg)) t.page
 have oN:=zZg hright
 have hrow6:zX3 w6 ⟨some ⟨w5.heap.size,0,none⟩,1,1⟩ [(⟨false,zJm t.fields⟩:Rec)]:=by
  refine⟨rfl,Nat.le_refl _,by show 1<=140737488355328;omega,λi x hx=>?_⟩
  have xh:i=0:=by have:=(List.getElem?_eq_some_iff.1 hx).1;simp at this;exact this
  subst xh
  simp at hx;subst hx
  obtain⟨v64,vl⟩:=oN ⟨false,zJm t.fields⟩ (by simp)
  refine⟨⟨w5.heap.size,0,none⟩,rfl,[.bool false,slV q3],⟨q3,rfl,hV6.rdS vl v64⟩,λj v hv=>?_⟩
  rcases j with _|_|j <;> simp at hv
  ·subst hv;exact cl gh 0
  ·subst hv;exact cl gh 1
 refine(xQw (t:={ t with recs:=[⟨false,zJm t.fields⟩] }) ⟨hpg,hf.pu eJ,hrow6⟩ hlim).mono ?_
 rintro e w7 ⟨q7,rfl,h7,cy⟩
 rw[if_pos hright]at h7
 have gg:=eJ.trans cy
 have hhl:(zJC { t with recs:=[⟨false,zJm t.fields⟩] }).length=13+16 * t.fields.length:=zWH (zJf.of hright)
 have ko:=hb.pu gg
 obtain⟨q8,w8,hr8,n8,oa⟩:=h7.app cy.size (m:=s) (news:=b) ko.len (λj c hj=>by
  obtain⟨a,ha,hc⟩:=ko.get j c hj
  exact⟨a,ha,by rw[Nat.mul_one]at hc;exact hc⟩) (by omega)
 have oK:Pu w6 w8:=cy.andNew oa h7.2
 refine⟨q7,_,rfl,q8,w8,hr8,alB λw9 cE nU=>?_⟩
 obtain⟨q10,aP,wT,iU,mO⟩:=(n8.pu cE).one (oK.trans cE).size (r:=w8.heap.size) (b:=26) nU rfl (by rw[List.length_append,hhl];omega)
 have hp6a:Pu w6 aP:=(oK.trans cE).andNew mO n8.2
 have hp0a:=eJ.trans hp6a
 refine⟨q10,aP,wT,?_⟩
 refine(yJR (iU.by (by simp only[List.length_append,hhl,List.length_singleton];omega)) (by simp only[List.length_append,hhl,List.length_singleton];omega)).mono ?_
 rintro e aU ⟨u,fu,ru,cd,rfl,hO,hNi,eG,hRO⟩
 have hp0b:=hp0a.trans eG
 have nX:w.heap.size<w1.heap.size:=zQy aA
 have lt2:w1.heap.size<w2.heap.size:=zQy aN
 have z10:=hp0a.size
 have z2a:=(((au.trans cx).trans bE).trans hp6a).size
 refine⟨_,fu,ru,_,rfl,alB λaQ dO kM=>zQg kM zK8.symm rfl rfl λaJ nY hf13 _=>?_⟩
 have oO:Pu aU aJ:=dO.andNew hf13 λi hi=>by rw[show i=_ from hi];exact Nat.le_refl _
 have hp0d:=hp0b.trans oO
 have b213:=oO.blk (eG.blk (hp6a.blk (bE.blk (cx.blk (au.blk aN)))))
 have hO13:=hO.pu oO
 refine Br.of (λc=>?_) (λc=>?_)
 ·have c:cd ≠ 0:=zQw c
  refine zQg b213 yWv.symm rfl rfl λbB iB ob _=>⟨_,cl iB 0,⟨none,0,0⟩,cl iB 1,hp0d.andNew ob λi hi=>by rw[show i=_ from hi];omega,false,⟨none,0,0⟩,false,rfl,.inl ⟨rfl,?_⟩⟩
  rcases zK4 hRO with⟨h0,_⟩|⟨_,hno,_⟩
  ·exact absurd h0 c
  ·unfold yX8;rw[hno];rfl
 ·have c:cd=0:=zQq c
  subst c
  have hro:=yKl hRO
  obtain⟨hvu,hbu⟩:=zXy hro
  have hcount:=yVn (t:={ t with recs:=[⟨false,zJm t.fields⟩] }) hvu (by simp) (by rw[hbu,List.append_assoc])
  obtain⟨x,hx⟩:=zQK (l:=u.recs) (k:=0) (by rw[hcount];simp)
  obtain⟨qs,k1,k2,k3,k4⟩:=hO13.rs
  obtain⟨y,hy⟩:=zQK (l:=qs) (k:=0) (by rw[k3,hcount];simp)
  obtain⟨e1,e2⟩:=k4 0 x y hx hy
  have hrul:=k1.len zQL (by decide)
  obtain⟨a,ha,_,c0⟩:=k1.elem zQL hy (o:=0) rfl
  obtain⟨a',ha',_,c1⟩:=k1.elem zQL hy (o:=1) rfl
  rw[ha]at ha';cases ha'
  refine⟨ru,cl nY 2,a,ha,by omega,by rw[hrul,k3,hcount];show(0:Int)<((1:Nat):Int);omega,y.1,c0,y.2,c1,zQg b213 yWv.symm rfl rfl λbH sI hf17 _=>⟨_,cl sI 0,y.2,cl sI 1,hp0d.andNew hf17 λi hi=>by rw[show i=_ from hi];omega,y.1,y.2,true,rfl,.inr ⟨rfl,x,?_,e1,?_⟩⟩⟩
  ·unfold yX8
   rw[hro]
   show u.recs.head?=some x
   rw[List.head?_eq_getElem?];exact hx
  ·exact(e2.fr hf17 λk hk e=>by have:=e2.2 k hk;have e:k=w1.heap.size:=e;omega).low z10
end Go.Proofs.YtaeecpjhfmcliaaGreatDoor
/- The log: what tells some records of a table. No condition but those stated. -/
namespace Go.Proofs.YtaeecpjhfmcliaaGreatDoor
open Go.Sh Go.RowKit Tryz
variable {w w' : World}
def yKQ(t:Tbl)(k:Int):List UInt8:=if (t.recs.length:Int)<k then []else zJd k.toNat 2 ++ xZf t k
theorem yQ5(t:Tbl)(l:List Int):zXr t l=zJd t.recs.length 2 ++ l.flatMap (yKQ t):=rfl
theorem xXp{t:Tbl}(hv:zQh t=0)(k:Int):(yKQ t k).length<=2002:=by
 have ho:=zJf.of hv
 unfold yKQ
 split
 ·simp
 ·rw[List.length_append,zQ6]
  unfold xZf
  split
  ·rename_i r hr
   have h1:=zKE ho.all (ho.recs r (List.mem_of_getElem? hr))
   have h2:=ho.w2
   omega
  ·simp
theorem yY7 {α:Type} {g:α->List UInt8} {n:Nat} (hg:∀x,(g x).length<=n):∀l:List α,(l.flatMap g).length<=l.length * n
 | []=>by simp
 | x :: l=>by
  have:=yY7 hg l
  have:=hg x
  rw[List.flatMap_cons,List.length_append,List.length_cons,Nat.succ_mul];omega
theorem xZS{t:Tbl}{f r:SV}(h:zXi w t f r)(hv:zQh t=0){w0:World}{s:SV}{l:List Int}(hl:zJD w0 w s l)(hk:∀k ∈ l,1<=k/\k<=1000000)(hn:l.length<=1000) :
  Calls prog 112 #[zKQ t f r,slV s] w λe w'=>∃q:SV,e=.returned (slV q)/\zQi w w' q (zXr t l)/\Pu w w':=by
 have ho:=zJf.of hv
 have hsl:=hl.len
 have hrl:=h.recs.len
 have cJ:=ho.m300
 refine yWu _ _ _ _ w _ (alB λw1 ar aA=>⟨r,cl aA 2,?_⟩)
 rw[show((r.len:Nat):Int)=((t.recs.length:Nat):Int)by omega]
 refine(yJ9 t.recs.length 2 (by omega) (by omega) w1).mono ?_
 rintro e w2 ⟨q2,rfl,pR,aq⟩
 refine⟨q2,rfl,?_⟩
 rw[show((s.len:Nat):Int)=((l.length:Nat):Int)by omega]
 refine zQx l.length (λk u w'=>u.2=(k:Int)/\zQi w1 w' u.1 (zJd t.recs.length 2 ++ (l.take k).flatMap (yKQ t))/\Pu w1 w') ⟨rfl,by simpa using pR,aq⟩ ?_
 rintro k J ⟨u1,u2⟩ wa hka ⟨z7,hr,hp⟩ hJ
 obtain rfl:u2=(k:Int):=z7
 have hr:zQi w1 wa u1 (zJd t.recs.length 2 ++ (l.take k).flatMap (yKQ t)):=hr
 dsimp only
 have hpa:=ar.trans hp
 have b1a:=hp.blk aA
 refine Br.of (λc=>?_) (λc=>?_)
 ·have aH:k<l.length:=by have:=zQj c;omega
  obtain⟨x,hx⟩:=zQK aH
  obtain⟨x1,x2⟩:=hk x (List.mem_of_getElem? hx)
  obtain⟨a,ha,hc,_⟩:=(hl.pu hpa).1.cell (j:=k) (v:=yJv x) (by rw[List.getElem?_map,hx];rfl)
  refine⟨a,ha,by omega,by omega,x,by rw[zXn,Nat.mul_one];exact hc,r,cl b1a 2,?_⟩
  have htk:(l.take (k+1)).flatMap (yKQ t)=(l.take k).flatMap (yKQ t) ++ yKQ t x:=by rw[zQC hx,List.flatMap_append];simp
  have hfl:((l.take k).flatMap (yKQ t)).length<=2002000:=by
   have h1:=yY7 (xXp hv) (l.take k)
   have h2:(l.take k).length<=1000:=by rw[List.length_take];omega
   have h3:=Nat.mul_le_mul_right 2002 h2
   omega
  have hcx:=xXp hv x
  refine Br.of (λc2=>?_) (λc2=>?_)
  ·have c2:=zQj c2
   have e:yKQ t x=[]:=by unfold yKQ;rw[if_pos (by omega)]
   rw[zQa (by omega) (by omega)]
   exact hJ _ _ aH ⟨rfl,by dsimp only;rw[htk,e,List.append_nil];exact hr,hp⟩
  ·have c2:=zQd c2
   refine⟨_,cl b1a 0,f,cl b1a 1,r,cl b1a 2,(rowE_c (sh:=zQv) (h.pu hpa) (zXH hv) x ⟨by omega,by omega⟩ (λ_ y hy=>⟨zX7.writes ho.all (ho.recs y hy),zX7.ne ho.all (ho.recs y hy) ho.ne⟩)).mono ?_⟩
   rintro e w5 ⟨q5,rfl,h5,aT⟩
   have hro:yQv zQv t x=xZf t x:=by
    unfold yQv xZf
    rw[if_pos (by unfold zJq;rw[if_neg (by rw[hv];simp),if_neg (by omega)])]
    all_goals (cases t.recs[(x - 1).toNat]? <;> rfl)
   rw[hro]at h5
   refine⟨q5,_,rfl,?_⟩
   rw[show x=((x.toNat:Nat):Int)by omega]
   refine(yJ9 x.toNat 2 (by omega) (by omega) w5).mono ?_
   rintro e w6 ⟨q6,rfl,h6,bE⟩
   have dQ:=(hp.trans aT).trans bE
   obtain⟨q7,w7,nT,n7,m0⟩:=((hr.pu aT).pu bE).app dQ.size (m:=q6) (news:=zJd x.toNat 2) h6.len (λj b hj=>h6.cell hj) (by rw[List.length_append,zQ6,zQ6];omega)
   have ec:yKQ t x=zJd x.toNat 2 ++ xZf t x:=by unfold yKQ;rw[if_neg (by omega)]
   have hrb:(xZf t x).length<=2002:=by rw[ec,List.length_append]at hcx;omega
   have h57:zQi wa w7 q5 (xZf t x):=(h5.pu bE).fr m0 λb hb e=>by
    have h1:=h5.2 b hb
    have h2:=hr.1.lt b e
    omega
   obtain⟨q8,w8,hr8,n8,oa⟩:=n7.app (by have:=dQ.size;have:=m0.size;omega) (m:=q5) (news:=xZf t x) h57.len (λj b hj=>h57.cell hj) (by simp only[List.length_append,zQ6];omega)
   have kq:Pu w1 w7:=dQ.andNew m0 hr.2
   refine⟨q6,rfl,q7,w7,nT,q8,w8,hr8,?_⟩
   rw[zQa (by omega) (by omega)]
   refine hJ _ _ aH ⟨rfl,?_,kq.andNew oa n7.2⟩
   dsimp only
   rw[htk,ec,←List.append_assoc,←List.append_assoc,List.append_assoc (zJd t.recs.length 2)]at *
   exact n8
 ·have aH:k=l.length:=by have:=zQd c;omega
  subst aH
  rw[List.take_length]at hr
  exact⟨u1,rfl,by rw[yQ5];exact hr.low ar.size,hpa⟩
end Go.Proofs.YtaeecpjhfmcliaaGreatDoor
/- The log: what is told of records changes a table: one of them. No condition but those stated. -/
namespace Go.Proofs.YtaeecpjhfmcliaaGreatDoor
open Go.Sh Go.RowKit Tryz
variable {w w' : World}
def chgT(R:Rt)(J1:SV->World->Prop)(p2 p4:Option Addr)(n6 n8 dm:Int)(l9:SV)(cq:Nat)(ki:Bool)(ds:Ds)(aJ:World):Prop:=
 Br (!ki) (
 zQf p2 λfY=>
 ∃bl:Int,aJ.cell? (fY.add 0)=some (.int .i64 bl)/\
 ∃aB:SV,aJ.cell? (fY.add 1)=some (.slice aB.a aB.len aB.cap)/\
 ∃aC:SV,aJ.cell? (fY.add 2)=some (.slice aC.a aC.len aC.cap)/\
 zQf p4 λkx=>
 stA prog 35 kx #[.int .i64 bl,.slice aB.a aB.len aB.cap,.slice aC.a aC.len aC.cap] aJ λbF=>
 zQb prog ds bF λbH=>
 zQf p4 λjk=>
 ∃ag:Int,bH.cell? (jk.add 0)=some (.int .i64 ag)/\
 ∃ab:SV,bH.cell? (jk.add 1)=some (.slice ab.a ab.len ab.cap)/\
 ∃ae:SV,bH.cell? (jk.add 2)=some (.slice ae.a ae.len ae.cap)/\
 R (.returned (.tuple #[.agg #[.int .i64 ag,.slice ab.a ab.len ab.cap,.slice ae.a ae.len ae.cap],.bool false])) bH) (
 Br (decide (dm<1)) (
 zQf p2 λky=>
 ∃bl:Int,aJ.cell? (ky.add 0)=some (.int .i64 bl)/\
 ∃aB:SV,aJ.cell? (ky.add 1)=some (.slice aB.a aB.len aB.cap)/\
 ∃aC:SV,aJ.cell? (ky.add 2)=some (.slice aC.a aC.len aC.cap)/\
 zQf p4 λa20=>
 stA prog 35 a20 #[.int .i64 bl,.slice aB.a aB.len aB.cap,.slice aC.a aC.len aC.cap] aJ λbX=>
 zQb prog ds bX λdf=>
 zQf p4 λoJ=>
 ∃ag:Int,df.cell? (oJ.add 0)=some (.int .i64 ag)/\
 ∃ab:SV,df.cell? (oJ.add 1)=some (.slice ab.a ab.len ab.cap)/\
 ∃ae:SV,df.cell? (oJ.add 2)=some (.slice ae.a ae.len ae.cap)/\
 R (.returned (.tuple #[.agg #[.int .i64 ag,.slice ab.a ab.len ab.cap,.slice ae.a ae.len ae.cap],.bool false])) df) (
 zQf p2 λws=>
 ∃pi:SV,aJ.cell? (ws.add 2)=some (.slice pi.a pi.len pi.cap)/\
 Br (decide (dm > (IntKind.i64.wrap (((pi.len:Nat):Int)+1)))) (
 zQf p2 λm8=>
 ∃bl:Int,aJ.cell? (m8.add 0)=some (.int .i64 bl)/\
 ∃aB:SV,aJ.cell? (m8.add 1)=some (.slice aB.a aB.len aB.cap)/\
 ∃aC:SV,aJ.cell? (m8.add 2)=some (.slice aC.a aC.len aC.cap)/\
 zQf p4 λql=>
 stA prog 35 ql #[.int .i64 bl,.slice aB.a aB.len aB.cap,.slice aC.a aC.len aC.cap] aJ λiq=>
 zQb prog ds iq λeg=>
 zQf p4 λqQ=>
 ∃ag:Int,eg.cell? (qQ.add 0)=some (.int .i64 ag)/\
 ∃ab:SV,eg.cell? (qQ.add 1)=some (.slice ab.a ab.len ab.cap)/\
 ∃ae:SV,eg.cell? (qQ.add 2)=some (.slice ae.a ae.len ae.cap)/\
 R (.returned (.tuple #[.agg #[.int .i64 ag,.slice ab.a ab.len ab.cap,.slice ae.a ae.len ae.cap],.bool false])) eg) (
 Br (decide (dm > 300)) (
 zQf p2 λow=>
 ∃bl:Int,aJ.cell? (ow.add 0)=some (.int .i64 bl)/\
 ∃aB:SV,aJ.cell? (ow.add 1)=some (.slice aB.a aB.len aB.cap)/\
 ∃aC:SV,aJ.cell? (ow.add 2)=some (.slice aC.a aC.len aC.cap)/\
 zQf p4 λrX=>
 stA prog 35 rX #[.int .i64 bl,.slice aB.a aB.len aB.cap,.slice aC.a aC.len aC.cap] aJ λgd=>
 zQb prog ds gd λfU=>
 zQf p4 λsj=>
 ∃ag:Int,fU.cell? (sj.add 0)=some (.int .i64 ag)/\
 ∃ab:SV,fU.cell? (sj.add 1)=some (.slice ab.a ab.len ab.cap)/\
 ∃ae:SV,fU.cell? (sj.add 2)=some (.slice ae.a ae.len ae.cap)/\
 R (.returned (.tuple #[.agg #[.int .i64 ag,.slice ab.a ab.len ab.cap,.slice ae.a ae.len ae.cap],.bool false])) fU) (
 zQf p2 λrY=>
 ∃iO:SV,aJ.cell? (rY.add 2)=some (.slice iO.a iO.len iO.cap)/\
 Br (decide (dm > ((iO.len:Nat):Int))) (
 zQf p2 λpW=>
 ∃aD:SV,aJ.cell? (pW.add 2)=some (.slice aD.a aD.len aD.cap)/\
 ∃jH:Bool,aJ.cell? ((⟨cq,0,none⟩:Addr).add 0)=some (.bool jH)/\
 ∃cV:SV,aJ.cell? ((⟨cq,0,none⟩:Addr).add 1)=some (.slice cV.a cV.len cV.cap)/\
 alE (.cells #[.bool jH,.slice cV.a cV.len cV.cap] 67) aJ λcB nn=>
 ∃aF:SV,∃na:World,(Builtin.append_ #[33,33] 33 #[.slice aD.a aD.len aD.cap,.slice (some ⟨cB,0,none⟩) 1 1]).run prog nn=.ok (.slice aF.a aF.len aF.cap) na/\
 zQf p2 λa39=>
 st1 (a39.add 2) (.slice aF.a aF.len aF.cap) na λqG=>
 zYe R J1 p2 p4 n6 n8 l9 ds qG) (
 zQf p2 λxZ=>
 ∃nG:SV,aJ.cell? (xZ.add 2)=some (.slice nG.a nG.len nG.cap)/\
 ∃jI:Bool,aJ.cell? ((⟨cq,0,none⟩:Addr).add 0)=some (.bool jI)/\
 ∃cW:SV,aJ.cell? ((⟨cq,0,none⟩:Addr).add 1)=some (.slice cW.a cW.len cW.cap)/\
 ∃sa:Addr,nG.a=some sa/\0<=(IntKind.i64.wrap (dm - 1))/\(IntKind.i64.wrap (dm - 1))<((nG.len:Nat):Int)/\
 stA prog 67 (sa.add ((IntKind.i64.wrap (dm - 1)).toNat * 2)) #[.bool jI,.slice cW.a cW.len cW.cap] aJ λoV=>
 zYe R J1 p2 p4 n6 n8 l9 ds oV)))))
def badT(R:Rt)(p2 p4:Option Addr)(ds:Ds)(aJ:World):Prop:=
 zQf p2 λfY=>
 ∃bl:Int,aJ.cell? (fY.add 0)=some (.int .i64 bl)/\
 ∃aB:SV,aJ.cell? (fY.add 1)=some (.slice aB.a aB.len aB.cap)/\
 ∃aC:SV,aJ.cell? (fY.add 2)=some (.slice aC.a aC.len aC.cap)/\
 zQf p4 λkx=>
 stA prog 35 kx #[.int .i64 bl,.slice aB.a aB.len aB.cap,.slice aC.a aC.len aC.cap] aJ λbF=>
 zQb prog ds bF λbH=>
 zQf p4 λjk=>
 ∃ag:Int,bH.cell? (jk.add 0)=some (.int .i64 ag)/\
 ∃ab:SV,bH.cell? (jk.add 1)=some (.slice ab.a ab.len ab.cap)/\
 ∃ae:SV,bH.cell? (jk.add 2)=some (.slice ae.a ae.len ae.cap)/\
 R (.returned (.tuple #[.agg #[.int .i64 ag,.slice ab.a ab.len ab.cap,.slice ae.a ae.len ae.cap],.bool false])) bH
def xYN(w:World)(t:Tbl)(body:List UInt8):Rt:=λe w'=>Pu w w'/\∃(p:Int) (q1 q2:SV) (b:Bool),e=.returned (.tuple #[.agg #[.int .i64 p,slV q1,slV q2],.bool b])/\
 ((b=false/\zQX t body=none)∨b=true/\∃u,zQX t body=some u/\p=u.page/\zZJ w w' u q1 q2)
theorem zJY.other {w0:World} {s:SV} {rs:List Rec} {b:Nat} {c:Array Value} {e:TypeId} (h:zJY w0 w s rs) (hf:Fr (·=b) w w') (hb:w.heap[b]?=some (.cells c e)) (h1:e ≠ 67) (h2:e ≠ 73):zJY w0 w' s rs:=by
 obtain⟨qs,k1,k2,k3,k4⟩:=h
 exact⟨qs,k1.fr hf λk hk ek=>k1.other hb (Ne.symm h1) (by rw[←show k=b from ek];exact hk),k2,k3,λi r x hr hx=>⟨(k4 i r x hr hx).1,(k4 i r x hr hx).2.fr hf λk hk ek=>(k4 i r x hr hx).2.1.other hb (Ne.symm h2) (by rw[←show k=b from ek];exact hk)⟩⟩
theorem zJY.set {w0:World} {s q:SV} {rs:List Rec} (h:zJY w0 w s rs) {k:Nat} (hk:k<rs.length) {x:Rec} (hq:zJH w0 w q x.v) {K:World->Prop} (hK:∀w',zJY w0 w' s (rs.set k x)->Fr (· ∈ zQe s) w w'->K w') :
  ∃a,s.a=some a/\stA prog 67 (a.add (k * 2)) #[.bool x.gone,slV q] w K:=by
 obtain⟨qs,k1,k2,k3,k4⟩:=h
 refine k1.stElem zQL (by decide) (i:=k) (by omega) (x.gone,q) yWv.symm rfl λw1 h1 hf hs=>hK w1 ⟨qs.set k (x.gone,q),h1,k2,by rw[List.length_set,List.length_set,k3],λi r y hr hy=>?_⟩ hf
 rw[List.getElem?_set]at hr hy
 by_cases e:k=i
 ·subst e
  rw[if_pos rfl,if_pos (by omega)]at hy hr
  cases hr;cases hy
  exact⟨rfl,hq.fr hf (zQr hq.1 k1 (by decide))⟩
 ·rw[if_neg e]at hr hy
  obtain⟨e1,e2⟩:=k4 i r y hr hy
  exact⟨e1,e2.fr hf (zQr e2.1 k1 (by decide))⟩
theorem zXz{t:Tbl}(hv:zQh t=0):yQP t:=by
 have ho:=zJf.of hv
 have hp:=ho.page
 unfold zQV at hp
 simp only[Bool.and_eq_true,decide_eq_true_eq]at hp
 have iP:=ho.n16
 refine⟨⟨by omega,by omega⟩,λg hg=>?_,zZg hv,by omega,ho.m300,λg hg=>(zQZ (List.all_eq_true.1 ho.all g hg)).2.1⟩
 have hg:=List.all_eq_true.1 ho.all g hg
 have h1:=yQI hg
 have h2:=zXq hg
 exact⟨⟨by omega,by omega⟩,⟨by omega,by omega⟩⟩
structure ChS(w0:World)(r2 r4:Nat)(t:Tbl)(qf:SV)(recs:List Rec)(w:World):Prop where
 ex:∃s,w.heap[r2]?=some (.cells #[.int .i64 t.page,slV qf,slV s] 35)/\zJY w0 w s recs
 b4:w.heap[r4]?=some (.cells #[.int .i64 0,.slice none 0 0,.slice none 0 0] 35)
 qf:zKz w0 w qf t.fields
 pu:Pu w0 w
 z2:w0.heap.size<=r2
 z4:w0.heap.size<=r4
 ne:r2 ≠ r4
theorem ChS.on{w0:World}{r2 r4:Nat}{t:Tbl}{qf:SV}{recs:List Rec}(h:ChS w0 r2 r4 t qf recs w)(hp:Pu w w'):ChS w0 r2 r4 t qf recs w':=by
 obtain⟨s,h1,h2⟩:=h.ex
 exact⟨⟨s,hp.blk h1,h2.pu hp⟩,hp.blk h.b4,h.qf.pu hp,h.pu.trans hp,h.z2,h.z4,h.ne⟩
theorem ChS.bad{w0:World}{r2 r4:Nat}{t:Tbl}{qf:SV}{recs:List Rec}{body:List UInt8}(h:ChS w0 r2 r4 t qf recs w)(hno:zQX t body=none):badT (xYN w0 t body) (some ⟨r2,0,none⟩) (some ⟨r4,0,none⟩) [] w:=by
 obtain⟨s,h1,h2⟩:=h.ex
 refine⟨_,cl h1 0,qf,cl h1 1,s,cl h1 2,zQg h.b4 zK8.symm rfl rfl λw2 aN fW _=>⟨_,cl aN 0,qf,cl aN 1,s,cl aN 2,h.pu.andNew fW λi hi=>by rw[show i=_ from hi];exact h.z4,_,qf,s,false,rfl,.inl ⟨rfl,hno⟩⟩⟩
theorem xJC{w0:World}{r2 r4:Nat}{t:Tbl}{qf:SV}{recs:List Rec}{body:List UInt8}{J1:SV->World->Prop}{n6 n8:Int}{dm:Nat}{l9:SV}{cq:Nat}{ok g:Bool}{q:SV}{row:List UInt8}
  (h:ChS w0 r2 r4 t qf recs w) (hb:w.heap[cq]?=some (.cells #[.bool g,slV q] 67)) (hrow:(ok=false/\yX8 t row=none)∨ok=true/\∃x,yX8 t row=some x/\g=x.gone/\zJH w0 w q x.v) (cJ:recs.length<=300)
  (hno:yX8 t row=none∨dm<1∨recs.length+1<dm∨300<dm->zQX t body=none)
  (hJ:∀x w',yX8 t row=some x->¬(dm<1∨recs.length+1<dm∨300<dm)->ChS w0 r2 r4 t qf (if recs.length<dm then recs ++ [x]else recs.set (dm - 1) x) w'->Fr (λb=>w0.heap.size<=b) w w'->zYe (xYN w0 t body) J1 (some ⟨r2,0,none⟩) (some ⟨r4,0,none⟩) n6 n8 l9 [] w') :
  chgT (xYN w0 t body) J1 (some ⟨r2,0,none⟩) (some ⟨r4,0,none⟩) n6 n8 (dm:Int) l9 cq ok [] w:=by
 obtain⟨s,h1,h2⟩:=h.ex
 have hsl:=h2.len
 refine Br.of (λc=>?_) (λc=>?_)
 ·have c:ok=false:=by simpa using c
  rcases hrow with⟨_,h0⟩|⟨h0,_⟩
  ·exact h.bad (hno (.inl h0))
  ·rw[c]at h0;cases h0
 have c:ok=true:=by simpa using c
 rcases hrow with⟨h0,_⟩|⟨_,x,hx,rfl,hV⟩
 ·rw[c]at h0;cases h0
 refine Br.of (λc1=>h.bad (hno (.inr (.inl (by have:=zQj c1;omega))))) (λc1=>⟨s,cl h1 2,?_⟩)
 have c1:=zQd c1
 rw[zQa (by omega) (by omega)]
 refine Br.of (λc2=>h.bad (hno (.inr (.inr (.inl (by have:=zQj c2;omega)))))) (λc2=>Br.of (λc3=>h.bad (hno (.inr (.inr (.inr (by have:=zQj c3;omega)))))) (λc3=>⟨s,cl h1 2,?_⟩))
 have c2:=zQd c2
 have c3:=zQd c3
 have hgood:¬(dm<1∨recs.length+1<dm∨300<dm):=by omega
 refine Br.of (λc4=>⟨s,cl h1 2,x.gone,cl hb 0,q,cl hb 1,alB λwa hpa ha=>?_⟩) (λc4=>⟨s,cl h1 2,x.gone,cl hb 0,q,cl hb 1,?_⟩)
 ·have c4:=zQj c4
  obtain⟨s',wb,hrb,nb,hfb⟩:=(h2.pu hpa).push (g:=x.gone) (vs:=x.v) (h.pu.trans hpa).size (hV.pu hpa) ha rfl (by omega)
  have h2b:=hfb.blk (hpa.blk h1) (λhk=>by obtain⟨qs,k1,_⟩:=h2.pu hpa;exact k1.other (hpa.blk h1) (by decide) hk)
  have h4b:=hfb.blk (hpa.blk h.b4) (λhk=>by obtain⟨qs,k1,_⟩:=h2.pu hpa;exact k1.other (hpa.blk h.b4) (by decide) hk)
  refine⟨s',wb,hrb,zQu h2b (by show 2<3;omega) λwc hwc hbc=>?_⟩
  have hfc:Fr (·=r2) wb wc:=by rw[hwc];exact Fr.cell wb _ _ _
  have hpb:Pu w0 wb:=(h.pu.trans hpa).andNew hfb (h2.pu hpa).own
  have hqf:zKz w0 wb qf t.fields:=(h.qf.pu hpa).fr hfb λk hk e=>by obtain⟨qs,k1,_⟩:=h2.pu hpa;exact zQr (h.qf.pu hpa).1 k1 (by decide) k hk e
  refine hJ x wc hx hgood ⟨⟨s',hbc,?_⟩,hfc.blk h4b (Ne.symm h.ne),hqf.fr hfc λk hk e=>hqf.1.other h2b (by decide) (by rw[←show k=r2 from e];exact hk),hpb.andNew hfc λi hi=>by rw[show i=_ from hi];exact h.z2,h.z2,h.z4,h.ne⟩ ?_
  ·rw[if_pos (by omega)];exact nb.other hfc h2b (by decide) (by decide)
  ·exact((Fr.pu hpa:Fr (λb=>w0.heap.size<=b) w wa).trans hfb λb hb _=>h2.own b hb).trans hfc λb hb _=>by rw[show b=_ from hb];exact h.z2
 ·have c4:=zQd c4
  rw[zQa (by omega) (by omega),show(dm:Int) - 1=((dm - 1:Nat):Int)by omega]
  obtain⟨a,ha,hst⟩:∃a,s.a=some a/\stA prog 67 (a.add ((dm - 1) * 2)) #[.bool x.gone,slV q] w λoV=>zYe (xYN w0 t body) J1 (some ⟨r2,0,none⟩) (some ⟨r4,0,none⟩) n6 n8 l9 [] oV:=by
   refine h2.set (by omega) hV λwb nb hfb=>?_
   have ne35:∀{b:Nat} {c:Array Value},w.heap[b]?=some (.cells c 35)->¬b ∈ zQe s:=λhb hk=>by obtain⟨qs,k1,_⟩:=h2;exact k1.other hb (by decide) hk
   refine hJ x wb hx hgood ⟨⟨s,hfb.blk h1 (ne35 h1),by rw[if_neg (by omega)];exact nb⟩,hfb.blk h.b4 (ne35 h.b4),h.qf.fr hfb λk hk e=>by obtain⟨qs,k1,_⟩:=h2;exact zQr h.qf.1 k1 (by decide) k hk e,h.pu.andNew hfb h2.own,h.z2,h.z4,h.ne⟩ (hfb.mono λb hb _=>h2.own b hb)
  exact⟨a,ha,by omega,by omega,by rw[zXn];exact hst⟩
end Go.Proofs.YtaeecpjhfmcliaaGreatDoor
/- The log: the reference's copies of records and tables. No condition but those stated. -/
namespace Go.Proofs.YtaeecpjhfmcliaaGreatDoor
open Go.Sh Go.RowKit Tryz
variable {w w' : World}
theorem zKI{g:Bool}{s:SV}{v:List Val}(h:RdV w s v)(hl:v.length<=1000000):Calls prog 102 #[.agg #[.bool g,slV s]] w λe w'=>∃q:SV,e=.returned (.agg #[.bool g,slV q])/\zJH w w' q v/\Pu w w':=by
 refine yKK _ _ w _ (alB λw1 ar aA=>alB λw2 aq aN=>zQc λw3 au _=>?_)
 have bj:=aq.trans au
 have aV:=ar.trans bj
 have kv:=bj.blk aA
 have pI:=au.blk aN
 have h3:=h.pu aV
 have hsl:=h.len
 obtain⟨q,w4,hra,hrow,fe,hblk,_⟩:=zQz (P:=prog) (ty:=38) vu38 vi73 rfl (by decide) (zQl.nil w3 73 3) (A:=s.a) (m:=s.len) (c:=s.cap) (news:=v.flatMap zVt) (by rw[zQ3 zX6,hsl]) (zJ0 zX6 (by decide) λi x hx=>by
  obtain⟨a,ha,c0,c1,c2⟩:=h3.get i x hx
  refine⟨a,ha,λo u hu=>?_⟩
  rcases o with _|_|_|o <;> simp[zVt]at hu <;> subst hu <;> assumption) (λu hu=>by
  obtain⟨y,_,hy⟩:=List.mem_flatMap.1 hu
  simp[zVt]at hy
  rcases hy with rfl|rfl|rfl <;> rfl) (by show(0+s.len) * (32+1)<=_;omega)
 rw[List.nil_append]at hrow
 have oP:Pu w3 w4:=fe.toPu λi hi=>by simp[zQe]at hi
 have nX:w.heap.size<w1.heap.size:=zQy aA
 refine⟨λu=>Pu w3 u,Pu.refl _,g,λu hu=>cl0 (hu.blk kv),s,λu hu=>cl (hu.blk kv) 1,q,w4,hra,oP,zQg (oP.blk pI) yWv.symm rfl rfl λw5 bq dq _=>⟨_,cl bq 0,q,cl bq 1,q,rfl,⟨hrow.fr dq λb hb e=>?_,λb hb=>?_⟩,(aV.trans oP).andNew dq λi hi=>by rw[show i=_ from hi];omega⟩⟩
 ·exact hrow.other (oP.blk pI) (by decide) (by rw[←show b=_ from e];exact hb)
 ·rcases hblk b hb with hb|hb
  ·simp[zQe]at hb
  ·have:=aV.size;omega
theorem yXI {w0:World} {r1 r2 r3:Nat} {t:Tbl} {f r qf:SV} (h:zX3 w0 r t.recs) (oN:R64 t.recs) (hn:t.recs.length<=300) (hv:zQh t=0) (S0:ChS w0 r3 r2 t qf [] w) (aA:w.heap[r1]?=some (.cells #[.int .i64 t.page,slV f,slV r] 35)) (mE:r1 ≠ r3) (mT:r1 ≠ r2) :
  xJd (λe w'=>∃f' r':SV,e=.returned (zKQ t f' r')/\zZJ w0 w' t f' r'/\Pu w0 w') (some ⟨r1,0,none⟩) (some ⟨r2,0,none⟩) (some ⟨r3,0,none⟩) 0 [] w:=by
 have hrl:=h.len
 refine zQx t.recs.length (λk u w'=>u=(k:Int)/\ChS w0 r3 r2 t qf (t.recs.take k) w'/\w'.heap[r1]?=some (.cells #[.int .i64 t.page,slV f,slV r] 35)) ⟨rfl,by simpa using S0,aA⟩ ?_
 rintro k J u wa hk ⟨hu,hS,ha1⟩ hJ
 obtain rfl:u=(k:Int):=hu
 refine⟨r,cl ha1 2,Br.of (λc=>zQc λwb hpb _=>?_) (λc=>?_)⟩
 ·have hkn:k<t.recs.length:=by have:=zQj c;omega
  obtain⟨x,hx⟩:=zQK hkn
  have hSb:=hS.on hpb
  obtain⟨s,g1,g2⟩:=hSb.ex
  have ha1b:=hpb.blk ha1
  obtain⟨a,q,ha,_,hV,c0,c1⟩:=zKn (h.pu hSb.pu) hx
  refine⟨λu=>Pu wb u,Pu.refl _,s,λu hu=>cl (hu.blk g1) 2,r,λu hu=>cl (hu.blk ha1b) 2,a,ha,by omega,by omega,x.gone,λu hu=>hu.cell (by rw[zXn];exact c0),q,λu hu=>hu.cell (by rw[zXn];exact c1),(zKI (RdV.of hV) (oN x (List.mem_of_getElem? hx)).2).mono ?_⟩
  rintro e wc ⟨q',rfl,hq',hpc⟩
  refine⟨_,q',rfl,hpc,alB λwd hpd hbd=>⟨hpc.trans hpd,?_⟩⟩
  have hSd:=hSb.on (hpc.trans hpd)
  have g1d:=(hpc.trans hpd).blk g1
  have g2d:=g2.pu (hpc.trans hpd)
  obtain⟨s',we,hre,ne,hfe⟩:=g2d.push (g:=x.gone) (vs:=x.v) hSd.pu.size ((hq'.pu hpd).low hSb.pu.size) hbd rfl (by rw[List.length_take];omega)
  have nk:∀{b:Nat} {c:Array Value},wd.heap[b]?=some (.cells c 35)->¬b ∈ zQe s:=λhb hk=>by obtain⟨qs,k1,_⟩:=g2d;exact k1.other hb (by decide) hk
  have g1e:=hfe.blk g1d (nk g1d)
  refine⟨s',we,hre,zQu g1e (by show 2<3;omega) λwf hwf hbf=>?_⟩
  have hff:Fr (·=r3) we wf:=by rw[hwf];exact Fr.cell we _ _ _
  have hb2e:=hfe.blk hSd.b4 (nk hSd.b4)
  have ha1d:=(hpc.trans hpd).blk ha1b
  have ha1e:=hfe.blk ha1d (nk ha1d)
  have hqe:zKz w0 we qf t.fields:=hSd.qf.fr hfe λk hk e=>by obtain⟨qs,k1,_⟩:=g2d;exact zQr hSd.qf.1 k1 (by decide) k hk e
  rw[zQa (by omega) (by omega)]
  refine hJ _ _ hkn ⟨rfl,⟨⟨s',hbf,?_⟩,hff.blk hb2e (Ne.symm hSd.ne),hqe.fr hff λk hk e=>hqe.1.other g1e (by decide) (by rw[←show k=r3 from e];exact hk),(hSd.pu.andNew hfe g2d.own).andNew hff λi hi=>by rw[show i=_ from hi];exact hSd.z2,hSd.z2,hSd.z4,hSd.ne⟩,hff.blk ha1e mE⟩
  rw[zQC hx]
  exact ne.other hff g1e (by decide) (by decide)
 ·have hkn:k=t.recs.length:=by have:=zQd c;omega
  subst hkn
  rw[List.take_length]at hS
  obtain⟨s,g1,g2⟩:=hS.ex
  refine⟨_,cl g1 0,qf,cl g1 1,s,cl g1 2,zQg hS.b4 zK8.symm rfl rfl λwz hbz hfz _=>⟨_,cl hbz 0,qf,cl hbz 1,s,cl hbz 2,qf,s,rfl,⟨hS.qf.fr hfz λk hk e=>hS.qf.1.other hS.b4 (by decide) (by rw[←show k=_ from e];exact hk),g2.other hfz hS.b4 (by decide) (by decide)⟩,hS.pu.andNew hfz λi hi=>by rw[show i=_ from hi];exact hS.z4⟩⟩
theorem zWf{t:Tbl}{f r:SV}(h:zXi w t f r)(hv:zQh t=0):Calls prog 71 #[zKQ t f r] w λe w'=>∃f' r':SV,e=.returned (zKQ t f' r')/\zZJ w w' t f' r'/\Pu w w':=by
 have iP:=(zJf.of hv).n16
 have cJ:=(zQM.of hv).n300
 have hfl:=h.fields.len
 refine xQb _ _ _ w _ (alB λw1 ar aA=>alB λw2 aq aN=>zQc λw3 au _=>?_)
 have bj:=aq.trans au
 have aV:=ar.trans bj
 have kv:=bj.blk aA
 have pI:=au.blk aN
 have nX:w.heap.size<w1.heap.size:=zQy aA
 have lt2:w1.heap.size<w2.heap.size:=zQy aN
 have z3:=au.size
 have app:∀{wz:World},Pu w wz->∃(q:SV) (wy:World),(Builtin.append_ #[32,32] 32 #[.slice none 0 0,.slice f.a f.len f.cap]).run prog wz=.ok (slV q) wy/\zKz w wy q t.fields/\Pu wz wy:=λ{wz} hpz=>by
  have hz:=h.fields.pu hpz
  obtain⟨q,wy,hra,hrow,hfy,hblk,_⟩:=zQz (P:=prog) (ty:=32) vu32 vi129 rfl (by decide) (zQl.nil wz 129 4) (A:=f.a) (m:=f.len) (c:=f.cap) (news:=t.fields.flatMap zVV) (by rw[zQ3 zZx,hfl]) (zJ0 zZx (by decide) λi x hx=>by
   obtain⟨a,ha,_,_,_,_,c0,c1,c2,c3⟩:=zJi hz hx
   refine⟨a,ha,λo u hu=>?_⟩
   rcases o with _|_|_|_|o <;> simp[zVV]at hu <;> subst hu <;> assumption) (λu hu=>by
   obtain⟨y,_,hy⟩:=List.mem_flatMap.1 hu
   simp[zVV]at hy
   rcases hy with rfl|rfl|rfl|rfl <;> rfl) (by show(0+f.len) * (40+1)<=_;omega)
  rw[List.nil_append]at hrow
  refine⟨q,wy,hra,⟨hrow,λb hb=>?_⟩,hfy.toPu λi hi=>by simp[zQe]at hi⟩
  rcases hblk b hb with hb|hb
  ·simp[zQe]at hb
  ·have:=hpz.size;omega
 refine⟨λu=>Pu w3 u,Pu.refl _,t.page,λu hu=>cl0 (hu.blk kv),f,λu hu=>cl (hu.blk kv) 1,?_,?_⟩
 ·obtain⟨q,w4,hra,hq,aK⟩:=app aV
  refine⟨q,w4,hra,aK,alB λw5 aT bq=>⟨aK.trans aT,zQg bq zK8.symm rfl rfl λw6 gh jf _=>?_⟩⟩
  have hp46:Pu w4 w6:=aT.andNew jf λi hi=>by rw[show i=_ from hi];exact Nat.le_refl _
  have cD:=aK.trans hp46
  have z4:=aK.size
  exact yXI (t:=t) (qf:=q) h.recs (zZg hv) cJ hv ⟨⟨⟨none,0,0⟩,gh,zJY.nil _ _⟩,cD.blk pI,hq.pu hp46,aV.trans cD,by omega,by omega,by omega⟩ (cD.blk kv) (by omega) (by omega)
 ·refine alB λw5 aT bq=>⟨aT,?_⟩
  obtain⟨q,w4,hra,hq,aK⟩:=app (aV.trans aT)
  refine⟨q,w4,hra,aT.trans aK,zQg (aK.blk bq) zK8.symm rfl rfl λw6 gh jf _=>?_⟩
  have cD:Pu w3 w6:=(aT.trans aK).andNew jf λi hi=>by rw[show i=_ from hi];exact Nat.le_refl _
  have sv:zKz w w6 q t.fields:=hq.fr jf λk hk e=>hq.1.other (aK.blk bq) (by decide) (by rw[←show k=_ from e];exact hk)
  exact yXI (t:=t) (qf:=q) h.recs (zZg hv) cJ hv ⟨⟨⟨none,0,0⟩,gh,zJY.nil _ _⟩,cD.blk pI,sv,aV.trans cD,by omega,by omega,by omega⟩ (cD.blk kv) (by omega) (by omega)
end Go.Proofs.YtaeecpjhfmcliaaGreatDoor
/- The log: what is told of records changes a table. No condition but those stated. -/
namespace Go.Proofs.YtaeecpjhfmcliaaGreatDoor
open Go.Sh Go.RowKit Tryz
variable {w w' : World}
theorem zWw.newR{w0:World}{t:Tbl}{h:HT}(ht:zWw w0 w t h):zJY w0 w h.r t.recs:=
 ⟨h.hs,ht.tab.rw_,ht.rn,ht.tab.len,λi r x hr hx=>⟨(ht.tab.rec_ i x r hx hr).1,(ht.tab.rec_ i x r hx hr).2,λb hb=>ht.vn b (zVi (List.mem_of_getElem? hx) hb)⟩⟩
theorem yY9{t:Tbl}{f r s:SV}{body:List UInt8}(h:zXi w t f r)(hv:zQh t=0)(hb:ByV w s body)(hbl:body.length<=1000000000):Calls prog 89 #[zKQ t f r,slV s] w (xYN w t body):=by
 have hR:=zQM.of hv
 have ho:=zJf.of hv
 have hl:=hb.len
 have hc:=hb.cap
 have mP:=ho.w2
 have vN:1<=zXG t.fields:=by have:=zJp (WOk.of ho.all);unfold zXG;omega
 obtain⟨size,hsz⟩:∃size,size=(zXG t.fields).toNat:=⟨_,rfl⟩
 have hszI:zXG t.fields=((size:Nat):Int):=by omega
 refine yYR _ _ _ _ w _ (alB λw1 ar aA=>alB λw2 aq aN=>?_)
 have cL:=aq.blk aA
 have aE:=ar.trans aq
 have nX:w.heap.size<w1.heap.size:=zQy aA
 refine⟨f,cl cL 1,(yYG (h.fields.pu aE) (zXH hv)).mono ?_⟩
 rintro e w3 ⟨rfl,au⟩
 have aV:=aE.trans au
 have kv:=au.blk cL
 have pI:=au.blk aN
 rw[if_pos hR.vf]
 refine⟨_,_,rfl,?_⟩
 -- a table that is not told, early
 have early:zQX t body=none->∃bC:Int,w3.cell? ((⟨w.heap.size,0,none⟩:Addr).add 0)=some (.int .i64 bC)/\∃aL:SV,w3.cell? ((⟨w.heap.size,0,none⟩:Addr).add 1)=some (.slice aL.a aL.len aL.cap)/\
   ∃aM:SV,w3.cell? ((⟨w.heap.size,0,none⟩:Addr).add 2)=some (.slice aM.a aM.len aM.cap)/\
   stA prog 35 (⟨w1.heap.size,0,none⟩:Addr) #[.int .i64 bC,.slice aL.a aL.len aL.cap,.slice aM.a aM.len aM.cap] w3 λxu=>
   ∃ag:Int,xu.cell? ((⟨w1.heap.size,0,none⟩:Addr).add 0)=some (.int .i64 ag)/\∃ab:SV,xu.cell? ((⟨w1.heap.size,0,none⟩:Addr).add 1)=some (.slice ab.a ab.len ab.cap)/\
   ∃ae:SV,xu.cell? ((⟨w1.heap.size,0,none⟩:Addr).add 2)=some (.slice ae.a ae.len ae.cap)/\
   xYN w t body (.returned (.tuple #[.agg #[.int .i64 ag,.slice ab.a ab.len ab.cap,.slice ae.a ae.len ae.cap],.bool false])) xu:=λhno=>
  ⟨_,cl kv 0,f,cl kv 1,r,cl kv 2,zQg pI zK8.symm rfl rfl λw5 bq dq _=>⟨_,cl bq 0,f,cl bq 1,r,cl bq 2,aV.andNew dq λi hi=>by rw[show i=_ from hi];omega,_,f,r,false,rfl,.inl ⟨rfl,hno⟩⟩⟩
 refine Br.of (λc=>early (by unfold zQX;rw[if_pos (.inl (by have:=zQj c;omega))])) (λc=>?_)
 have c:=zQd c
 rw[zQa (n:=zXG t.fields+2) (by omega) (by omega),zQa (n:=((s.len:Nat):Int) - 2) (by omega) (by omega)]
 refine⟨rfl,by omega,?_⟩
 have hmod:(((s.len:Nat):Int) - 2).tmod (zXG t.fields+2)=(((body.length - 2) % (size+2):Nat):Int):=by
  rw[hszI,show((s.len:Nat):Int) - 2=((body.length - 2:Nat):Int)by omega,show((size:Nat):Int)+2=((size+2:Nat):Int)by omega,Int.tmod_eq_emod_of_nonneg (by omega)]
  norm_cast
 rw[hmod]
 refine Br.of (λc1=>early (by
  unfold zQX
  rw[←hsz,if_pos (.inr (λe=>zQw c1 (by rw[e];rfl)))])) (λc1=>?_)
 have c1:(body.length - 2) % (size+2)=0:=by have:=zQq c1;omega
 have hfr2:=(hb.pu aV).front (n:=2) (by omega)
 refine⟨by omega,by show 2<=s.cap;omega,by omega,(yXq hfr2 (by rw[List.length_take];omega)).mono ?_⟩
 rintro e w4 ⟨rfl,aK⟩
 have ct:=aV.trans aK
 have iy:=aK.blk kv
 have sf:=aK.blk pI
 refine⟨_,rfl,_,cl iy 0,f,cl iy 1,r,cl iy 2,(zJR (h.pu ct) hv).mono ?_⟩
 rintro e w5 ⟨ht,rfl,hT,aT⟩
 have eE:=ct.trans aT
 have iN:=aT.blk iy
 have qg:=aT.blk sf
 have z4:=ct.size
 refine⟨_,ht.f,ht.r,rfl,zQg iN zK8.symm rfl rfl λw6 gh jf _=>?_⟩
 have eJ:Pu w w6:=eE.andNew jf λi hi=>by rw[show i=_ from hi];exact Nat.le_refl _
 have pZ:=jf.blk qg (show ¬w1.heap.size=w.heap.size by omega)
 have hT6:zWw w w6 t ht:=(hT.fr jf λb hb _ e=>by have e:b=w.heap.size:=e;have:=ct.size;have:=aV.size;have:=au.size;have l2:w1.heap.size<w2.heap.size:=zQy aN;have:=aK.size;omega).low z4
 have S0:ChS w w.heap.size w1.heap.size t ht.f t.recs w6:=⟨⟨ht.r,by rw[gh,hT.tab.page],hT6.newR⟩,pZ,⟨hT6.f,hT6.fn⟩,eJ,Nat.le_refl _,by omega,by omega⟩
 refine⟨hc,by omega,by show 2<=s.len;omega,?_⟩
 obtain⟨N,hN⟩:∃N,N=(body.length - 2) / (size+2):=⟨_,rfl⟩
 have hNm:N * (size+2)=body.length - 2:=by rw[hN];exact Nat.div_mul_cancel (Nat.dvd_of_mod_eq_zero c1)
 have hG:∀G,G=goC t size t.recs (body.drop 2)->zQX t body=G.bind λl=>if l.length=zQW (body.take 2)then some { t with recs:=l }else none:=λG hG=>by
  unfold zQX
  rw[←hsz,if_neg (by omega),hG]
 refine zQx N (λk q w'=>∃recs,ChS w w.heap.size w1.heap.size t ht.f recs w'/\recs.length<=300/\(∀x ∈ recs,zQ1 t.fields t.page x=0)/\(∀wv,Pu w wv->ByV wv q (body.drop (2+k * (size+2))))/\goC t size recs (body.drop (2+k * (size+2)))=goC t size t.recs (body.drop 2))
  ⟨t.recs,S0,hR.n300,hR.recs,λwv hpv=>by simpa using (hb.pu hpv).rest (lo:=2) (by omega),by simp⟩ ?_
 rintro k J q wa hk ⟨recs,hS,cJ,hval,hqv,hgo⟩ hJ
 have hq:=hqv wa hS.pu
 have hql:=hq.len
 have hqc:=hq.cap
 rw[List.length_drop]at hql
 have hkm:k * (size+2)<=N * (size+2):=Nat.mul_le_mul_right _ hk
 refine Br.of (λd=>?_) (λd=>?_)
 ·have d:=zQj d
  have hkN:k<N:=by
   rcases Nat.lt_or_ge k N with h|h
   ·exact h
   ·have:k=N:=by omega
    subst this;omega
  have wV:(k+1) * (size+2)<=N * (size+2):=Nat.mul_le_mul_right _ hkN
  rw[Nat.succ_mul]at wV
  obtain⟨rest,hrest⟩:∃rest,rest=body.drop (2+k * (size+2)):=⟨_,rfl⟩
  rw[←hrest]at hq hgo hqv
  have hrl:rest.length=q.len:=by rw[hrest,List.length_drop];omega
  have hne:rest ≠ []:=λe=>by rw[e]at hrl;simp at hrl;omega
  have hfr:=hq.front (n:=2) (by omega)
  refine⟨by omega,by show 2<=q.cap;omega,by omega,(yXq hfr (by rw[List.length_take];omega)).mono ?_⟩
  rintro e wb ⟨rfl,hpb⟩
  obtain⟨dm,h48⟩:∃dm,dm=zQW (rest.take 2):=⟨_,rfl⟩
  rw[←h48]
  refine⟨_,rfl,zQc λwc hpc _=>?_⟩
  have hpac:=hpb.trans hpc
  have hSc:=hS.on hpac
  obtain⟨sc,xH,hNc⟩:=hSc.ex
  have hqc2:=hq.pu hpac
  rw[zQa (n:=zXG t.fields+2) (by omega) (by omega)]
  have tN:(zXG t.fields+2).toNat=size+2:=by omega
  rw[tN]
  have hsub:=hqc2.sub (lo:=2) (hi:=size+2) (by omega) (by omega)
  rw[show size+2 - 2=size by omega]at hsub
  have hstep:=yXj (t:=t) (size:=size) (recs:=recs) (rest:=rest) hne
  rw[←h48,hgo]at hstep
  have hno:yX8 t ((rest.drop 2).take size)=none∨dm<1∨recs.length+1<dm∨300<dm->zQX t body=none:=λhx=>by
   have:goC t size t.recs (body.drop 2)=none:=by
    rw[hstep]
    cases hr:yX8 t ((rest.drop 2).take size)with
    | none=>rfl
    | some x=>exact if_pos (hx.resolve_left (by rw[hr];simp))
   rw[hG _ rfl,this];rfl
  have hdrop:rest.drop (size+2)=body.drop (2+(k+1) * (size+2)):=by rw[hrest,List.drop_drop,Nat.succ_mul];congr 1;omega
  -- behind a record
  have next:∀x w',yX8 t ((rest.drop 2).take size)=some x->¬(dm<1∨recs.length+1<dm∨300<dm)->ChS w w.heap.size w1.heap.size t ht.f (if recs.length<dm then recs ++ [x]else recs.set (dm - 1) x) w'->
    zYe (xYN w t body) J (some ⟨w.heap.size,0,none⟩) (some ⟨w1.heap.size,0,none⟩) (zXG t.fields) (zQW (body.take 2):Nat) q [] w':=λx wz hx hg hSz=>by
   have hxv:=yQt hR.page hR.vf hx
   unfold zYe
   rw[zQa (n:=zXG t.fields+2) (by omega) (by omega),tN]
   refine⟨hqc,by omega,by omega,hJ _ _ hkN ⟨_,hSz,?_,λy hy=>?_,λwv hpv=>by rw[←hdrop];exact(hqv wv hpv).rest (by omega),?_⟩⟩
   ·split
    ·rw[List.length_append,List.length_singleton];omega
    ·rw[List.length_set];exact cJ
   ·split at hy
    ·rcases List.mem_append.1 hy with hy|hy
     ·exact hval y hy
     ·rw[List.mem_singleton.1 hy];exact hxv
    ·rcases List.mem_or_eq_of_mem_set hy with hy|rfl
     ·exact hval y hy
     ·exact hxv
   ·rw[←hdrop,hstep,hx]
    exact(if_neg hg).symm
  have hpg:zJe t.page:=h.page
  refine⟨λu=>Pu wc u,Pu.refl _,_,λu hu=>cl (hu.blk xH) 0,ht.f,λu hu=>cl (hu.blk xH) 1,sc,λu hu=>cl (hu.blk xH) 2,by omega,by omega,by omega,by show 2<=size+2;omega,?_,?_⟩
  ·refine(xK9 hpg hR.page (hSc.qf.rd (by have:=ho.n16;omega) (zXz hv).f64) hR.vf hsub (by rw[List.length_take];omega)).mono ?_
   rintro e wd ⟨hpd,g,v,ok,rfl,hrow⟩
   refine⟨g,v,ok,rfl,alB λwe hpe hbe=>zQg hbe yWv.symm rfl rfl λwf hbf hff _=>?_⟩
   have hpdf:Pu wd wf:=hpe.andNew hff λi hi=>by rw[show i=_ from hi];exact Nat.le_refl _
   have hSf:=(hSc.on hpd).on hpdf
   exact xJC (row:=(rest.drop 2).take size) hSf hbf (hrow.imp id λ⟨a,x,hx,hg,hV⟩=>⟨a,x,hx,hg,(hV.pu hpdf).low hSc.pu.size⟩) cJ hno λx wz hx hg hSz hfz=>next x wz hx hg hSz
  ·refine alB λwd hpd hbd=>⟨hpd,(xK9 hpg hR.page ((hSc.qf.pu hpd).rd (by have:=ho.n16;omega) (zXz hv).f64) hR.vf (hsub.pu hpd) (by rw[List.length_take];omega)).mono ?_⟩
   rintro e we ⟨hpe,g,v,ok,rfl,hrow⟩
   refine⟨g,v,ok,rfl,zQg (hpe.blk hbd) yWv.symm rfl rfl λwf hbf hff _=>?_⟩
   have hpdf:Pu wc wf:=(hpd.trans hpe).andNew hff λi hi=>by rw[show i=_ from hi];exact Nat.le_refl _
   have hSf:=hSc.on hpdf
   have zd:=(hSc.pu.trans hpd).size
   refine xJC (row:=(rest.drop 2).take size) hSf hbf (hrow.imp id λ⟨a,x,hx,hg,hV⟩=>⟨a,x,hx,hg,(hV.fr hff λb hb e=>?_).low zd⟩) cJ hno λx wz hx hg hSz hfz=>next x wz hx hg hSz
   have h1:=hV.2 b hb
   have h2:=zQy hbd
   have e:b=wc.heap.size:=e
   omega
 ·have d:=zQd d
  have hkN:k=N:=by
   rcases Nat.lt_or_ge k N with h|h
   ·have wV:(k+1) * (size+2)<=N * (size+2):=Nat.mul_le_mul_right _ h
    rw[Nat.succ_mul]at wV
    omega
   ·omega
  subst hkN
  rw[List.drop_eq_nil_of_le (by omega),yQM]at hgo
  have hch:=hG _ rfl
  rw[←hgo]at hch
  obtain⟨sc,xH,hNc⟩:=hS.ex
  have hscl:=hNc.len
  refine zQc λwb hpb _=>?_
  have hSb:=hS.on hpb
  refine⟨λu=>∃c,u.heap[w.heap.size]?=some (.cells #[.int .i64 t.page,slV ht.f,slV sc] 35)/\c=(),⟨(),hpb.blk xH,rfl⟩,_,λu ⟨_,hu,_⟩=>cl hu 0,ht.f,λu ⟨_,hu,_⟩=>cl hu 1,sc,λu ⟨_,hu,_⟩=>cl hu 2,sc,λu ⟨_,hu,_⟩=>cl hu 2,?_⟩
  refine zQg hSb.b4 zK8.symm rfl rfl λwz hbz hfz _=>⟨⟨(),hfz.blk (hpb.blk xH) (show ¬w.heap.size=w1.heap.size by omega),rfl⟩,_,cl hbz 0,ht.f,cl hbz 1,sc,cl hbz 2,hSb.pu.andNew hfz λi hi=>by rw[show i=_ from hi];omega,_,ht.f,sc,_,rfl,?_⟩
  by_cases hn:recs.length=zQW (body.take 2)
  ·right
   refine⟨by rw[show((sc.len:Nat):Int)=((recs.length:Nat):Int)by omega,hn];simp,{ t with recs:=recs },by rw[hch];exact if_pos hn,rfl,⟨hSb.qf.fr hfz λk hk e=>hSb.qf.1.other hSb.b4 (by decide) (by rw[←show k=_ from e];exact hk),(hNc.pu hpb).other hfz hSb.b4 (by decide) (by decide)⟩⟩
  ·left
   refine⟨?_,by rw[hch];exact if_neg hn⟩
   rw[show((sc.len:Nat):Int)=((recs.length:Nat):Int)by omega]
   have:¬((recs.length:Nat):Int)=((zQW (body.take 2):Nat):Int):=by omega
   simpa using this
end Go.Proofs.YtaeecpjhfmcliaaGreatDoor
/- The log: what files tell, as the program finds it; what a recovery writes. No condition but those stated. -/
namespace Go.Proofs.YtaeecpjhfmcliaaGreatDoor
open Go.Sh Go.RowKit Tryz
variable {w w' : World}
def TabR(w:World)(F:Fls):Rt:=λe w'=>Pu w w'/\∃(p:Int) (f r:SV) (n:Int) (a b:Bool),e=.returned (.tuple #[.agg #[.int .i64 p,slV f,slV r],.int .i64 n,.bool a,.bool b])/\n=(F.2.length:Int) - ((zQR F).2.1.length:Int)/\a=(zQR F).2.2/\
 ((b=false/\(zQR F).1=none)∨b=true/\∃t,(zQR F).1=some t/\p=t.page/\zZJ w w' t f r)
structure xZr(w0:World)(r2 r6:Nat)(cur:Option Tbl)(is:Bool)(w:World):Prop where
 ex:∃(p:Int) (f r:SV),w.heap[r6]?=some (.cells #[.int .i64 p,slV f,slV r] 35)/\((is=false/\cur=none)∨is=true/\∃t,cur=some t/\zQh t=0/\p=t.page/\zZJ w0 w t f r)
 b2:w.heap[r2]?=some (.cells #[.int .i64 0,.slice none 0 0,.slice none 0 0] 35)
 pu:Pu w0 w
 z2:w0.heap.size<=r2
 z6:w0.heap.size<=r6
 ne:r2 ≠ r6
theorem zZJ.other {w0:World} {t:Tbl} {f r:SV} {b:Nat} {c:Array Value} (h:zZJ w0 w t f r) (hf:Fr (·=b) w w') (hb:w.heap[b]?=some (.cells c 35)):zZJ w0 w' t f r:=
 ⟨h.fs.fr hf λk hk e=>h.fs.1.other hb (by decide) (by rw[←show k=b from e];exact hk),h.rs.other hf hb (by decide) (by decide)⟩
theorem xZr.on{w0:World}{r2 r6:Nat}{cur:Option Tbl}{is:Bool}(h:xZr w0 r2 r6 cur is w)(hp:Pu w w'):xZr w0 r2 r6 cur is w':=by
 obtain⟨p,f,r,h1,h2⟩:=h.ex
 exact⟨⟨p,f,r,hp.blk h1,h2.imp id λ⟨a,t,b,c,d,e⟩=>⟨a,t,b,c,d,e.pu hp⟩⟩,hp.blk h.b2,h.pu.trans hp,h.z2,h.z6,h.ne⟩
theorem xZr.put {w0:World} {r2 r6:Nat} {cur cur':Option Tbl} {is is':Bool} (h:xZr w0 r2 r6 cur is w) {p:Int} {f r:SV} (hx:(is'=false/\cur'=none)∨is'=true/\∃t,cur'=some t/\zQh t=0/\p=t.page/\zZJ w0 w t f r) {K:World->Prop}
  (hK:∀w',xZr w0 r2 r6 cur' is' w'->K w'):stA prog 35 (⟨r6,0,none⟩:Addr) #[.int .i64 p,slV f,slV r] w K:=by
 obtain⟨p0,f0,r0,h1,_⟩:=h.ex
 refine zQg h1 zK8.symm rfl rfl λw2 aN fW _=>hK w2 ⟨⟨p,f,r,aN,hx.imp id λ⟨a,t,b,c,d,e⟩=>⟨a,t,b,c,d,e.other fW h1⟩⟩,fW.blk h.b2 h.ne,h.pu.andNew fW λi hi=>by rw[show i=_ from hi];exact h.z6,h.z2,h.z6,h.ne⟩
theorem xYd{s q0 q1:SV}{F:Fls}(h:zXP w s q0 q1 F)(hF:F.1.length<=900000000/\F.2.length<=900000000):Calls prog 47 #[slV s] w (TabR w F):=by
 have hl:=h.len
 obtain⟨a,ha,c0,c1⟩:=h.ex
 refine yY2 _ w _ (alB λw1 ar aA=>⟨a,ha,by omega,by omega,q0,ar.cell c0,(yJR (h.b0.pu ar) (by omega)).mono ?_⟩)
 rintro e w2 ⟨t0,f0,r0,cd,rfl,hO,hNi,aq,hRO⟩
 have aE:=ar.trans aq
 have nX:w.heap.size<w1.heap.size:=zQy aA
 have z1:=ar.size
 refine⟨_,f0,r0,_,rfl,alB λw3 au bo=>zQg bo zK8.symm rfl rfl λw4 cI fe _=>?_⟩
 have fT:Pu w2 w4:=au.andNew fe λi hi=>by rw[show i=_ from hi];exact Nat.le_refl _
 have ct:=aE.trans fT
 have z2:=aq.size
 have first:∀{wz:World},Pu w2 wz->(((cd == 0)=false/\zXA F.1=none)∨(cd == 0)=true/\∃t,zXA F.1=some t/\zQh t=0/\t0.page=t.page/\zZJ w wz t f0 r0):=λhpz=>by
  rcases zK4 hRO with⟨rfl,h1⟩|⟨rfl,h1,_⟩
  ·exact .inr ⟨rfl,t0,h1,(zXy h1).1,rfl,(hO.pu hpz).low z1⟩
  ·exact .inl ⟨rfl,h1⟩
 have S0:xZr w w.heap.size w2.heap.size (zXA F.1) (cd == 0) w4:=⟨⟨_,f0,r0,cI,first fT⟩,fT.blk (aq.blk aA),ct,Nat.le_refl _,by omega,by omega⟩
 refine⟨a,ha,by omega,by omega,q1,ct.cell c1,?_⟩
 have hq1l:=h.b1.len
 refine yZX (λt w'=>∃cur rest,xZr w w.heap.size w2.heap.size cur t.1 w'/\(∀wv,Pu w wv->ByV wv t.2.2 rest)/\rest.length<=900000000/\zKh cur t.2.1 rest=zQR F) (λt _=>t.2.2.len)
  ⟨zXA F.1,F.2,S0,λwv hv=>h.b1.pu hv,hF.2,rfl⟩ ?_
 rintro J ⟨is,anew,q⟩ wa ⟨cur,rest,hS,hq,hrl,hG⟩ hJ
 dsimp only at hS hq hG
 have hqa:=hq wa hS.pu
 have hqal:=hqa.len
 refine(next_c hqa (by omega)).mono ?_
 rintro e wb ⟨hpb,k,p1,p2,b,rfl,hN⟩
 have hSb:=hS.on hpb
 refine⟨k,p1,p2,b,rfl,?_⟩
 rcases hN with⟨rfl,hnone⟩|⟨rfl,kk,body,more,hsome,rfl,hby⟩
 ·refine Br.of (λ_=>?_) (λc=>by cases c)
  rw[zZA hnone]at hG
  refine zQc λwc hpc _=>?_
  have hSc:=hSb.on hpc
  obtain⟨p,f,r,g1,g2⟩:=hSc.ex
  have hb22:=hSc.b2
  have cc1:=(hSc.pu).cell c1
  refine⟨λu=>u.heap[w2.heap.size]?=some (.cells #[.int .i64 p,slV f,slV r] 35)/\u.cell? (a.add 1)=some (slV q1),⟨g1,cc1⟩,p,λu hu=>cl hu.1 0,f,λu hu=>cl hu.1 1,r,λu hu=>cl hu.1 2,a,ha,by omega,by omega,q1,λu hu=>hu.2,?_⟩
  refine zQg hb22 zK8.symm rfl rfl λwd hbd hfd _=>?_
  have hpd:Pu w wd:=hSc.pu.andNew hfd λi hi=>by rw[show i=_ from hi];exact Nat.le_refl _
  refine⟨⟨hfd.blk g1 (Ne.symm hSc.ne),hpd.cell c1⟩,p,cl hbd 0,f,cl hbd 1,r,cl hbd 2,hpd,p,f,r,_,anew,is,rfl,?_,by rw[←hG],?_⟩
  ·show IntKind.i64.wrap (((q1.len:Nat):Int) - ((q.len:Nat):Int))=_
   rw[←hG,zQa (by omega) (by omega)];dsimp only;omega
  ·rcases g2 with⟨g,e⟩|⟨g,t,e,_,ep,hO⟩
   ·exact .inl ⟨g,by rw[←hG];exact e⟩
   ·exact .inr ⟨g,t,by rw[←hG];exact e,ep,hO.other hfd hb22⟩
 ·refine Br.of (λc=>by cases c) (λ_=>?_)
  rw[zZ0 hsome]at hG
  have hless:=yQV hsome
  have pR:∀wv,Pu w wv->ByV wv p2 more:=λwv hv=>(hby wv (hq wv hv)).2
  have hp2l:=(pR wb hSb.pu).len
  have wW:=(hby wb (hq wb hSb.pu)).1
  have hbodyl:body.length<=1000000000:=by
   have h1:=wW.len
   unfold zZ2 at hsome
   split at hsome
   ·cases hsome
   split at hsome
   ·cases hsome
   split at hsome
   ·cases hsome
   simp only[Option.some.injEq,Prod.mk.injEq]at hsome
   rw[←hsome.2.1,List.length_take,List.length_drop]
   omega
  have go:∀{is':Bool} {cur':Option Tbl} {a':Bool} {wz:World},xZr w w.heap.size w2.heap.size cur' is' wz->zJs cur anew kk body=(cur',a')->J (is',a',p2) wz:=λ{is' cur' a' wz} hSz hst=>by
   refine hJ _ _ ⟨cur',more,hSz,pR,by omega,?_⟩ (by show p2.len<q.len;omega)
   rw[hst]at hG;exact hG
  refine Br.of (λc=>?_) (λc=>?_)
  ·have c:kk=119:=by
    have:((kk.toNat:Nat):Int)=119:=by simpa using c
    exact UInt8.toNat_inj.1 (show kk.toNat=119 by omega)
   subst c
   refine(yJR wW hbodyl).mono ?_
   rintro e wc ⟨t1,f1,r1,cd1,rfl,hO1,hNi1,hpc,hRO1⟩
   refine⟨_,f1,r1,_,rfl,?_⟩
   refine(hSb.on hpc).put (cur':=zXA body) (is':=cd1 == 0) ?_ λwd hSd=>go hSd (by unfold zJs;rw[if_pos rfl])
   rcases zK4 hRO1 with⟨rfl,h1⟩|⟨rfl,h1,_⟩
   ·exact .inr ⟨rfl,t1,h1,(zXy h1).1,rfl,hO1.low hSb.pu.size⟩
   ·exact .inl ⟨rfl,h1⟩
  ·have c:kk ≠ 119:=λe=>by rw[e]at c;exact absurd c (by decide)
   refine Br.of (λc1=>?_) (λc1=>?_)
   ·have c1:kk ≠ 99:=λe=>by rw[e]at c1;exact absurd c1 (by decide)
    obtain⟨p,f,r,g1,_⟩:=hSb.ex
    exact go (is':=false) (cur':=none) ⟨⟨p,f,r,g1,.inl ⟨rfl,rfl⟩⟩,hSb.b2,hSb.pu,hSb.z2,hSb.z6,hSb.ne⟩ (by unfold zJs;rw[if_neg c,if_pos c1])
   ·have c1:kk=99:=by
     have:((kk.toNat:Nat):Int)=99:=by simpa using c1
     exact UInt8.toNat_inj.1 (show kk.toNat=99 by omega)
    subst c1
    have hst:zJs cur anew 99 body=(cur.bind λt=>zQX t body,anew):=by unfold zJs;rw[if_neg c,if_neg (by simp)]
    obtain⟨p,f,r,g1,g2⟩:=hSb.ex
    refine Br.of (λc2=>?_) (λc2=>?_)
    ·rcases g2 with⟨g,_⟩|⟨_,t,rfl,hv,rfl,hO⟩
     ·rw[g]at c2;cases c2
     refine⟨_,cl g1 0,f,cl g1 1,r,cl g1 2,(yY9 (hO.rd (zXz hv)) hv wW hbodyl).mono ?_⟩
     rintro e wc ⟨hpc,pp,x1,x2,bb,rfl,hC⟩
     refine⟨pp,x1,x2,bb,rfl,?_⟩
     refine(hSb.on hpc).put (cur':=zQX t body) (is':=bb) ?_ λwd hSd=>go hSd hst
     rcases hC with⟨h1,h2⟩|⟨h1,u,h2,h3,h4⟩
     ·exact .inl ⟨h1,h2⟩
     ·exact .inr ⟨h1,u,h2,zKV hv h2,h3,h4.low hSb.pu.size⟩
    ·rcases g2 with⟨_,g⟩|⟨g,_⟩
     ·refine go hSb ?_
      rw[hst,g];rfl
     ·rw[g]at c2;cases c2
end Go.Proofs.YtaeecpjhfmcliaaGreatDoor
