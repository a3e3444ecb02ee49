import Derived.Test.YtaeecpjhfmcliaaGreatDoorLgOwC
import Derived.Test.YtaeecpjhfmcliaaGreatDoorLgPrA
import Derived.Test.YtaeecpjhfmcliaaGreatDoorLgPrB
/- Table: numbers and dates that are read from texts, by both packages. No condition. -/
set_option maxRecDepth 100000
set_option linter.unusedVariables false
set_option linter.unusedSimpArgs false
noncomputable section
namespace Go.Proofs.YtaeecpjhfmcliaaGreatDoor
open Go.Sh Go.RowKit Tryz
def zZi:Nat->List UInt8->Nat
 | a,[]=>a
 | a,b :: l=>if zXL b then zZi (min (10 * a+(b.toNat - 48)) 1000000000000000) l else a
def yXQ:List UInt8->Int
 | []=>0
 | b :: r=>if b.toNat=45 then -(zZi 0 r:Int)else if b.toNat=43 then zZi 0 r else zZi 0 (b :: r)
theorem zZb(b:UInt8)(r:List UInt8):yXQ (b :: r)=if b.toNat=45 then -(zZi 0 r:Int)else if b.toNat=43 then zZi 0 r else zZi 0 (b :: r):=rfl
def zYP(l:List UInt8):Int:=yXQ (l.dropWhile (· == 32))
theorem zVv:∀{l:List UInt8} {a:Nat},a<=1000000000000000->zZi a l<=1000000000000000
 | [],a,h=>h
 | b :: l,a,h=>by
  unfold zZi
  split
  ·exact zVv (Nat.min_le_right _ _)
  ·exact h
theorem yYe(l:List UInt8):-1000000000000000<=zYP l/\zYP l<=1000000000000000:=by
 have h:=λr=>zVv (l:=r) (a:=0) (by omega)
 unfold zYP yXQ
 split
 ·omega
 ·rename_i b r _
  have h1:=h r
  have h2:=h (b :: r)
  split
  ·omega
  ·split <;> omega
theorem yZ4{b:UInt8}(h:zXL b=true):48<=b.toNat/\b.toNat<=57:=by
 unfold zXL at h;simpa using h
theorem yQs {b:UInt8} (h:¬(48<=b.toNat/\b.toNat<=57)):zXL b=false:=by
 unfold zXL;simp;omega
theorem yJy{b:UInt8}(h:48<=b.toNat/\b.toNat<=57):IntKind.i64.wrap (IntKind.u8.wrap (((b.toNat:Nat):Int) - 48))=((b.toNat - 48:Nat):Int):=by
 have e:IntKind.u8.wrap (((b.toNat:Nat):Int) - 48)=((b.toNat - 48:Nat):Int):=by rw[IntKind.wrap_u8];omega
 rw[e,zQa (by omega) (by omega)]
theorem yQi(b:UInt8)(r:List UInt8):(bs (b :: r)).extract ((1:Int).toNat) (bs (b :: r)).size=bs r:=by
 apply zQI
 rw[zQ6,zQH,zQH,zQ3]
 show(List.take (b :: r).length (b :: r)).drop 1=r
 rw[List.take_length];rfl
theorem yQg {w0 w:World} (hp:Pu w0 w) (l:List UInt8) {sg X:Int} (hsg:sg=1∨sg=-1) (hl:l.length<=140737488355328) (hX:X=sg * (zZi 0 l:Nat)) :
  zWU (λe w'=>e=.returned (.int .i64 X)/\Pu w0 w') (bs l) sg [] w:=by
 have hs:=zQ3 l
 have fin:∀{a:Nat} {w':World},a<=1000000000000000->a=zZi 0 l->Pu w0 w'->yQT (λe w'=>e=.returned (.int .i64 X)/\Pu w0 w') sg (a:Int) [] w':=λ{a w'} h1 h2 h3=>by
  refine⟨?_,h3⟩
  rw[hX,←h2]
  rcases hsg with h|h
  ·rw[h,zQa (by omega) (by omega)]
  ·rw[h,zQa (by omega) (by omega)]
 refine zQ0 l.length (λk t w'=>t.2=(k:Int)/\∃a:Nat,t.1=(a:Int)/\a<=1000000000000000/\zZi a (l.drop k)=zZi 0 l/\Pu w0 w') ⟨rfl,0,rfl,by omega,rfl,hp⟩ ?_
 rintro k J ⟨t1,t2⟩ w2 hk ⟨h2,a,h1,ha,hd,ar⟩ hJ
 obtain rfl:t2=(k:Int):=h2
 obtain rfl:t1=(a:Int):=h1
 dsimp only
 refine Br.of (λd=>?_) (λd=>?_)
 ·have aG:k<l.length:=by have:=zQk d;omega
  obtain⟨b,hb⟩:=zQZ aG
  have hbb:(bs l)[((k:Int)).toNat]?=some b:=zVU (by rw[zQH];exact hb)
  rw[zXO hb]at hd
  refine⟨b,by omega,hbb,Br.of (λd1=>?_) (λd1=>⟨b,by omega,hbb,Br.of (λd2=>?_) (λd2=>⟨b,by omega,hbb,?_⟩)⟩)⟩
  ·refine fin ha ?_ ar
   rw[zZi,yQs (by have:=zQk d1;omega)]at hd
   simpa using hd
  ·refine fin ha ?_ ar
   rw[zZi,yQs (by have:=zQk d2;omega)]at hd
   simpa using hd
  ·have d1:=zQd d1
   have d2:=zQd d2
   have aN:48<=b.toNat/\b.toNat<=57:=by omega
   rw[yJy aN,zQa (n:=(a:Int) * 10) (by omega) (by omega),zQa (n:=(a:Int) * 10+_) (by omega) (by omega),zQa (n:=(k:Int)+1) (by omega) (by omega)]
   refine⟨_,w2,yYN _ _ _ _ _ _,?_⟩
   have e:zXL b=true:=by unfold zXL;simp;omega
   rw[zZi,e,if_pos rfl]at hd
   exact hJ _ _ aG ⟨by dsimp only;omega,min (10 * a+(b.toNat - 48)) 1000000000000000,by dsimp only;omega,Nat.min_le_right _ _,hd,ar⟩
 ·have aG:k=l.length:=by have:=zQd d;omega
  subst aG
  rw[List.drop_length]at hd
  exact fin ha hd ar
theorem yYX(s:ByteArray)(hs:s.size<=140737488355328)(w:World):Calls prog 211 #[.string s] w λe w'=>e=.returned (.int .i64 (zYP s.data.toList))/\Pu w w':=by
 refine yJS _ w _ ((Any.strings_TrimLeft_one Tryz.lays161 s 32 (by decide) w).mono ?_)
 rintro e w1 ⟨rfl,rfl⟩
 have hT:Lib.trimLeftB s.data.toList 32=s.data.toList.dropWhile (· == 32):=rfl
 rw[hT]
 have hlen:(s.data.toList.dropWhile (· == 32)).length<=s.size:=by
  have:=(List.dropWhile_suffix (· == (32:UInt8)) (l:=s.data.toList)).length_le
  rwa [zQy]at this
 refine⟨_,rfl,?_⟩
 rw[zXC]
 unfold zYP
 cases hL:s.data.toList.dropWhile (· == 32)with
 | nil=>exact Br.f (by simp[ByteArray.size]) (yQg (Pu.refl _) [] (.inl rfl) (by simp) rfl)
 | cons b r=>
  rw[hL]at hlen
  simp only[List.length_cons]at hlen
  have h0:(bs (b :: r))[((0:Int)).toNat]?=some b:=zVU (by rw[zQH];rfl)
  refine Br.t (by rw[zQ3];simp) ⟨b,by omega,h0,Br.of (λd=>⟨b,by omega,h0,Br.of (λd1=>⟨Nat.le_refl _,by omega,by rw[zQ3];show 1<=_;simp,?_⟩) (λd1=>absurd (zQC d) (zQm d1))⟩) (λd=>⟨b,by omega,h0,Br.of (λd1=>⟨b,by omega,h0,Br.of (λd2=>absurd (zQC d2) (zQm d)) (λd2=>⟨Nat.le_refl _,by omega,by rw[zQ3];show 1<=_;simp,?_⟩)⟩) (λd1=>?_)⟩)⟩
  ·rw[yQi]
   refine yQg (Pu.refl _) r (.inr rfl) (by omega) ?_
   rw[zZb,if_pos (by have:=zQC d;omega)];omega
  ·rw[yQi]
   refine yQg (Pu.refl _) r (.inl rfl) (by omega) ?_
   rw[zZb,if_neg (by have:=zQm d;omega),if_pos (by have:=zQC d1;omega)];omega
  ·refine yQg (Pu.refl _) (b :: r) (.inl rfl) (by simp;omega) ?_
   rw[zZb,if_neg (by have:=zQm d;omega),if_neg (by have:=zQm d1;omega)];omega
def yZk(y m d:Nat):Int × Bool:=(((if zQJ y m d then zZf y m d else 0:Nat):Int),decide (zQJ y m d))
def zXn(l:List UInt8):Int × Bool:=if l=List.replicate 8 32 then(0,true)else if l.length ≠ 8 then(0,false)else if l.all zXL then yZk (zZi 0 (l.take 4)) (zZi 0 ((l.drop 4).take 2)) (zZi 0 (l.drop 6))else(0,false)
theorem yZr(l:List UInt8):0<=(zXn l).1/\(zXn l).1<=3652059:=by
 unfold zXn
 split
 ·simp
 ·split
  ·simp
  ·split
   ·unfold yZk
    dsimp only
    split
    ·rename_i h
     have h1:=h.year
     have h2:=zX7 (a:=zZi 0 (l.take 4)+1) (b:=10000) (by omega) (by have:=h.2.1;omega)
     have:=zJY
     omega
    ·omega
   ·simp
theorem zZ1{l:List UInt8}(h:l.all zXL=true):zYP l=(zZi 0 l:Nat):=by
 cases l with
 | nil=>rfl
 | cons b r=>
  have hb:=yZ4 (List.all_eq_true.1 h b (by simp))
  have e:(b == 32)=false:=by
   simp only[beq_eq_false_iff_ne,ne_eq]
   intro h;subst h;revert hb;decide
  unfold zYP
  rw[List.dropWhile_cons,e]
  simp only[Bool.false_eq_true,if_false]
  rw[zZb,if_neg (by omega),if_neg (by omega)]
def xQl:List UInt8:=[48,49,50,51,52,53,54,55,56,57]
theorem yWR(b:UInt8):xQl.contains b=zXL b:=by
 have h:∀n:Nat,n<256->xQl.contains (UInt8.ofNat n)=zXL (UInt8.ofNat n):=by decide +kernel
 have:=h b.toNat b.toNat_lt
 rwa [UInt8.ofNat_toNat]at this
theorem xWE(s:ByteArray)(hs:s.size<=9223372036854775807)(w:World):Calls prog 190 #[.string s,.string ⟨#[48,49,50,51,52,53,54,55,56,57]⟩] w
  λe w'=>e=.returned (.string ⟨(Lib.trimS s.data.toList xQl).toArray⟩)/\Pu w w':=
 Any.strings_Trim_laid Tryz.lays160 u110 s ⟨#[48,49,50,51,52,53,54,55,56,57]⟩ w hs (by decide) (ascii_of_all (by decide))
theorem yYH(s:ByteArray):(s.toList == (⟨#[32,32,32,32,32,32,32,32]⟩:ByteArray).toList)=decide (s.data.toList=List.replicate 8 32):=by
 rw[zXz]
 exact zZl ⟨λh=>by rw[h];rfl,λh=>zQI (by rw[h];rfl)⟩
theorem zKC{l:List UInt8}(h:l.all zXL=true)(n:Nat):(l.take n).all zXL=true:=List.all_eq_true.2 λb hb=>List.all_eq_true.1 h b (List.mem_of_mem_take hb)
theorem zKx{l:List UInt8}(h:l.all zXL=true)(n:Nat):(l.drop n).all zXL=true:=List.all_eq_true.2 λb hb=>List.all_eq_true.1 h b (List.mem_of_mem_drop hb)
theorem ext3{s:ByteArray}(h8:s.size=8):(s.extract 0 ((4:Int).toNat)).data.toList=s.data.toList.take 4/\(s.extract ((4:Int).toNat) ((6:Int).toNat)).data.toList=(s.data.toList.drop 4).take 2/\(s.extract ((6:Int).toNat) s.size).data.toList=s.data.toList.drop 6:=by
 refine⟨by rw[zQ6];rfl,?_,?_⟩
 ·rw[zQ6]
  show(List.take 6 s.data.toList).drop 4=_
  rw[List.drop_take]
 ·rw[zQ6,h8,List.take_of_length_le (by rw[zQy];omega)];rfl
theorem yYG(s:ByteArray)(hs:s.size<=140737488355328)(w:World):Calls prog 213 #[.string s] w λe w'=>e=.returned (.tuple #[.int .i64 (zXn s.data.toList).1,.bool (zXn s.data.toList).2])/\Pu w w':=by
 refine yKC _ w _ ?_
 rw[yYA,yYH]
 refine Br.of (λd=>⟨by unfold zXn;rw[if_pos (zQk d)],Pu.refl w⟩) (λd=>Br.of (λd1=>⟨?_,Pu.refl w⟩) (λd1=>(xWE s (by omega) w).mono ?_))
 ·unfold zXn;rw[if_neg (zQd d),if_pos (by rw[zQy];have:=zQ5 d1;omega)]
 have h8:s.size=8:=by have:=zQs d1;omega
 rintro e w1 ⟨rfl,ax⟩
 have e2:((ByteArray.mk (Lib.trimS s.data.toList xQl).toArray).toList == (⟨#[]⟩:ByteArray).toList)=s.data.toList.all zXL:=by
  rw[zXC]
  have h1:((ByteArray.mk (Lib.trimS s.data.toList xQl).toArray).size=0) ↔ s.data.toList.all (xQl.contains ·)=true:=by
   rw[←yXz];simp[ByteArray.size]
  rw[show zXL=(xQl.contains ·)from funext λb=>(yWR b).symm]
  rw[Bool.eq_iff_iff,decide_eq_true_iff];exact h1
 refine⟨_,rfl,?_⟩
 rw[e2]
 have eU:zXn s.data.toList=if s.data.toList.all zXL then yZk (zZi 0 (s.data.toList.take 4)) (zZi 0 ((s.data.toList.drop 4).take 2)) (zZi 0 (s.data.toList.drop 6))else(0,false):=by
  unfold zXn;rw[if_neg (zQd d),if_neg (by rw[zQy];omega)]
 refine Br.of (λd2=>⟨by rw[eU,if_neg (by simpa using d2)],ax⟩) (λd2=>zQf λw2 ar _=>?_)
 have hall:s.data.toList.all zXL=true:=by simpa using d2
 obtain⟨x1,x2,x3⟩:=ext3 h8
 refine⟨by omega,by rw[h8];decide,by decide,by omega,by rw[h8];decide,by omega,by decide,Nat.le_refl _,by omega,by rw[h8];decide,(yYX _ (by rw[←zQy,x1,List.length_take];omega) w2).mono ?_⟩
 rintro e w3 ⟨rfl,aA⟩
 refine⟨_,rfl,(yYX _ (by rw[←zQy,x2,List.length_take];omega) w3).mono ?_⟩
 rintro e w4 ⟨rfl,aJ⟩
 refine⟨_,rfl,(yYX _ (by rw[←zQy,x3,List.length_drop,zQy];omega) w4).mono ?_⟩
 rintro e w5 ⟨rfl,aV⟩
 rw[x1,x2,x3,zZ1 (zKC hall 4),zZ1 (zKC (zKx hall 4) 2),zZ1 (zKx hall 6)]
 refine⟨_,rfl,(days_c _ _ _ w5).mono ?_⟩
 rintro e w6 ⟨rfl,bV⟩
 refine⟨_,_,rfl,?_,(((ax.trans ar).trans aA).trans (aJ.trans aV)).trans bV⟩
 rw[eU,if_pos hall]
 unfold yZk
 by_cases hD:zQJ (zZi 0 (s.data.toList.take 4)) (zZi 0 ((s.data.toList.drop 4).take 2)) (zZi 0 (s.data.toList.drop 6))
 ·rw[if_pos hD,if_pos hD,decide_eq_true hD];rfl
 ·rw[if_neg hD,if_neg hD,decide_eq_false hD];rfl
end Go.Proofs.YtaeecpjhfmcliaaGreatDoor
/- Table: values that are read back, by both packages. No condition. -/
namespace Go.Proofs.YtaeecpjhfmcliaaGreatDoor
open Go.Sh Go.RowKit Tryz
def zZ6(k:Int)(s:List UInt8):Val:=if k=1 then⟨1,if s=[84]then 1 else 0,⟨#[]⟩⟩else if k=3 then⟨3,(zXn s).1,⟨#[]⟩⟩else if k=4 then⟨4,0,bs (zZo s)⟩else⟨2,zYP s,⟨#[]⟩⟩
def okS(k:Int)(s:List UInt8):Bool:=if k=1 then decide (s=[84]) || decide (s=[70])else if k=2 then !(s.all (· == 32))else if k=3 then(zXn s).2 else true
theorem yJ4(k:Int)(s:List UInt8):zZZ (zZ6 k s).kind/\zZZ (zZ6 k s).n:=by
 have h1:=yYe s
 have h2:=yZr s
 unfold zZ6 zZZ
 split
 ·dsimp only
  split <;> omega
 ·split
  ·dsimp only;omega
  ·split
   ·dsimp only;omega
   ·dsimp only;omega
theorem yQG:∀{l:List UInt8} {a:Nat} {d:UInt8},(∀b ∈ l,zXL b=true)->zXL d=true->zZi a (l ++ [d])=min (10 * zZi a l+(d.toNat - 48)) 1000000000000000
 | [],a,d,_,hd=>by simp[zZi,hd]
 | b :: l,a,d,hl,hd=>by
  rw[List.cons_append,zZi,hl b (by simp),if_pos rfl,yQG (λx hx=>hl x (by simp[hx])) hd,zZi,hl b (by simp),if_pos rfl]
theorem zV9(n:Nat):∀b ∈ zZr n,zXL b=true:=λb hb=>by
 have:=zKb n b hb
 unfold zXL;simp;omega
theorem yXe{n:Nat}(h:n<10):zXL (UInt8.ofNat (48+n))=true/\(UInt8.ofNat (48+n)).toNat - 48=n:=by
 have e:(UInt8.ofNat (48+n)).toNat=48+n:=by simp;omega
 exact⟨by unfold zXL;simp only[e];simp;omega,by omega⟩
theorem zYZ:∀n:Nat,n<=1000000000000000->zZi 0 (zZr n)=n:=by
 intro n
 induction n using Nat.strongRecOn with
 | _ n ih=>
  intro hn
  by_cases h:n<10
  ·rw[zXG h]
   obtain⟨h1,h2⟩:=yXe h
   rw[zZi,h1,if_pos rfl,zZi,h2];omega
  ·rw[zZn h]
   obtain⟨h1,h2⟩:=yXe (n:=n % 10) (by omega)
   rw[yQG (zV9 _) h1,h2,ih (n / 10) (by omega) (by omega)];omega
theorem zY1(l:List UInt8):∀j:Nat,zZi 0 (List.replicate j 48 ++ l)=zZi 0 l
 | 0=>rfl
 | j+1=>by
  rw[List.replicate_succ,List.cons_append,zZi]
  rw[show zXL 48=true by decide,if_pos rfl]
  exact zY1 l j
theorem yQk(k n:Nat)(h:n<=1000000000000000):zZi 0 (zJs k n)=n:=by unfold zJs;rw[zY1,zYZ n h]
theorem zV3(k n:Nat):∀b ∈ zJs k n,zXL b=true:=λb hb=>by
 unfold zJs at hb
 rcases List.mem_append.1 hb with h|h
 ·rw[List.eq_of_mem_replicate h];decide
 ·exact zV9 n b h
theorem zJq(l:List UInt8):∀j:Nat,(List.replicate j 32 ++ l).dropWhile (· == 32)=l.dropWhile (· == 32)
 | 0=>rfl
 | j+1=>by rw[List.replicate_succ,List.cons_append,List.dropWhile_cons];simp only[beq_self_eq_true,if_true];exact zJq l j
theorem zVX(j:Nat)(l:List UInt8):zYP (List.replicate j 32 ++ l)=zYP l:=by unfold zYP;rw[zJq]
theorem yZR{n:Int}(h:-1000000000000000<=n/\n<=1000000000000000):zYP (zZ7 n)=n:=by
 unfold zZ7
 split
 ·unfold zYP
  rw[List.dropWhile_cons,show((45:UInt8) == 32)=false by decide]
  simp only[Bool.false_eq_true,if_false]
  rw[zZb,if_pos (by decide),zYZ _ (by omega)];omega
 ·rw[zZ1 (List.all_eq_true.2 λb hb=>zV9 _ b hb),zYZ _ (by omega)];omega
theorem yQ5{n:Int}(h:0<=n/\n<=3652059):zXn (zJI n)=(n,true):=by
 by_cases h0:n=0
 ·rw[h0,zJk];unfold zXn;rw[if_pos rfl]
 obtain⟨k,rfl⟩:∃k:Nat,n=(k:Int):=⟨n.toNat,by omega⟩
 obtain⟨y,m,d,hD,rfl⟩:=yVO (k:=k) (by omega)
 rw[zKv hD]
 obtain⟨a,b,c⟩:=zVP hD
 have l4:=zXI a.1
 have l2:=zXI b.1
 have l2':=zXI c.1
 have hall:(zJs 4 y ++ zJs 2 m ++ zJs 2 d).all zXL=true:=List.all_eq_true.2 λx hx=>by
  rcases List.mem_append.1 hx with hx|hx
  ·rcases List.mem_append.1 hx with hx|hx
   ·exact zV3 _ _ x hx
   ·exact zV3 _ _ x hx
  ·exact zV3 _ _ x hx
 have hne:¬(zJs 4 y ++ zJs 2 m ++ zJs 2 d)=List.replicate 8 32:=λe=>by
  rw[e]at hall;revert hall;decide
 unfold zXn
 rw[if_neg hne,if_neg (by rw[zWv hD];simp),if_pos hall]
 have e1:(zJs 4 y ++ zJs 2 m ++ zJs 2 d).take 4=zJs 4 y:=by rw[List.append_assoc,List.take_append_of_le_length (by omega),List.take_of_length_le (by omega)]
 have e2:((zJs 4 y ++ zJs 2 m ++ zJs 2 d).drop 4).take 2=zJs 2 m:=by
  rw[List.append_assoc,List.drop_append_of_le_length (by omega),List.drop_eq_nil_of_le (by omega),List.nil_append,List.take_append_of_le_length (by omega),List.take_of_length_le (by omega)]
 have e3:(zJs 4 y ++ zJs 2 m ++ zJs 2 d).drop 6=zJs 2 d:=by
  rw[List.drop_append,List.drop_eq_nil_of_le (by rw[List.length_append];omega),List.nil_append,List.length_append,l4,l2];rfl
 rw[e1,e2,e3,yQk _ _ (by omega),yQk _ _ (by omega),yQk _ _ (by omega)]
 unfold yZk
 rw[if_pos hD,decide_eq_true hD]
theorem zV5(l:List UInt8):∀j:Nat,zZo (l ++ List.replicate j 32)=zZo l
 | 0=>by simp
 | j+1=>by rw[List.replicate_succ',←List.append_assoc,zKU,if_pos rfl,zV5 l j]
theorem yWL{j:Nat}{n:Int}:((List.replicate j 32 ++ zZ7 n).all (· == 32))=false:=by
 rw[List.all_append]
 have:(zZ7 n).all (· == (32:UInt8))=false:=by
  rw[List.all_eq_false]
  unfold zZ7
  split
  ·exact⟨45,by simp,by decide⟩
  ·have hp:=yQc n.natAbs
   obtain⟨b,hb⟩:=zQZ (l:=zZr n.natAbs) (k:=0) (by omega)
   have hm:=List.mem_of_getElem? hb
   refine⟨b,hm,?_⟩
   have:=zKb n.natAbs b hm
   intro h
   have:b=32:=by simpa using h
   subst this
   revert this;simp at *
 rw[this,Bool.and_false]
theorem yJC{f:Fld}{p:Int}{v:Val}(h:zWS f p v)(h0:v.kind ≠ 0):zZ6 f.kind (zQp f v)=v/\okS f.kind (zQp f v)=true:=by
 cases h with
 | nil hv hn=>rw[hv]at h0;exact absurd rfl h0
 | truth hk hw hv hn=>
  have e:zQp f v=[if v.n=1 then 84 else 70]:=by unfold zQp;rw[if_neg h0,if_pos hk]
  rw[e];unfold zZ6 okS;rw[if_pos hk,if_pos hk]
  rcases hn with hn|hn
  ·rw[hn];refine⟨?_,by decide⟩;rw[hv,hn];rfl
  ·rw[hn];refine⟨?_,by decide⟩;rw[hv,hn];rfl
 | num hk hw hv hn hl=>
  have e:zQp f v=List.replicate (f.width.toNat - (zZ7 v.n).length) 32 ++ zZ7 v.n:=by unfold zQp;rw[if_neg h0,if_neg (by omega),if_neg (by omega),if_neg (by omega),if_neg (by omega)]
  rw[e];unfold zZ6 okS
  rw[if_neg (by omega),if_neg (by omega),if_neg (by omega),if_neg (by omega),if_pos hk,zVX,yZR hn,yWL]
  exact⟨hv.symm,rfl⟩
 | date hk hw hv hn=>
  have e:zQp f v=zJI v.n:=by unfold zQp;rw[if_neg h0,if_neg (by omega),if_pos hk]
  rw[e];unfold zZ6 okS
  rw[if_neg (by omega),if_pos hk,if_neg (by omega),if_neg (by omega),if_pos hk,yQ5 hn]
  exact⟨hv.symm,rfl⟩
 | text hk hw hv hl hb ht=>
  have e:zQp f v=zYB f v:=by unfold zQp;rw[if_neg h0,if_neg (by omega),if_neg (by omega),if_pos hk]
  rw[e];unfold zZ6 okS zYB
  rw[if_neg (by omega),if_neg (by omega),if_pos hk,if_neg (by omega),if_neg (by omega),if_neg (by omega),zV5,hb,yZ0]
  exact⟨hv.symm,rfl⟩
 | memo hk hw hv hn=>
  have e:zYP (zQp f v)=v.n:=by
   unfold zQp
   rw[if_neg h0,if_neg (by omega),if_neg (by omega),if_neg (by omega)]
   by_cases hz:v.n=0
   ·rw[if_pos ⟨hk,hz⟩,hz,hw];decide
   ·rw[if_neg (by simp[hz]),zVX,yZR (by omega)]
  unfold zZ6 okS
  rw[if_neg (by omega),if_neg (by omega),if_neg (by omega),if_neg (by omega),if_neg (by omega),if_neg (by omega),e]
  exact⟨hv.symm,rfl⟩
theorem xKo(s:ByteArray)(c:UInt8):(s.toList == (⟨#[c]⟩:ByteArray).toList)=decide (s.data.toList=[c]):=by
 rw[zXz]
 exact zZl ⟨λh=>by rw[h],λh=>zQI (by rw[h])⟩
theorem yZ1(s:ByteArray)(w:World):Calls prog 181 #[.string s] w λe w'=>e=.returned (.tuple #[zWt (zZ6 1 s.data.toList),.bool (okS 1 s.data.toList)])/\Pu w w':=by
 refine yKK _ w _ (alB λw1 ax aE=>zYt rfl s25.symm rfl λw2 ar mw aN=>?_)
 have hlt:w.heap.size<w1.heap.size:=zQz aE
 have b1:=ar.blk aE
 rw[xKo,xKo]
 unfold zZ6 okS
 rw[if_pos rfl,if_pos rfl]
 refine Br.of (λd=>?_) (λd=>⟨_,cl aN 0,_,cl aN 1,_,cl aN 2,Br.of (λd1=>absurd d1 (by rw[d];simp)) (λd1=>zQh b1 s25.symm rfl rfl λw3 bo fU ng=>⟨_,cl bo 0,_,cl bo 1,_,cl bo 2,?_,ax.trans ar |>.andNew fU λi hi=>by omega⟩)⟩)
 ·show st1 ((⟨w1.heap.size,0,none⟩:Addr).add 1) _ w2 _
  rw[zQr]
  refine zQw aN (by decide) λw3 oq bo=>?_
  have fU:Fr (·=w1.heap.size) w2 w3:=by rw[oq];exact Fr.cell w2 _ _ _
  have b3:=fU.blk b1 (show ¬w.heap.size=w1.heap.size by omega)
  have aA:Pu w w3:=(ax.trans ar).andNew fU λi hi=>by omega
  refine⟨_,cl bo 0,_,cl bo 1,_,cl bo 2,Br.t d (zQh b3 s25.symm rfl rfl λw4 cA iv sK=>⟨_,cl cA 0,_,cl cA 1,_,cl cA 2,?_,aA.andNew iv λi hi=>by omega⟩)⟩
  rw[if_pos (zQk d),d];rfl
 ·rw[if_neg (zQd d),d];simp
theorem yWN(l:List UInt8):(Lib.trimB l 32=[]) ↔ l.all (· == 32)=true:=by
 unfold Lib.trimB Lib.trimLeftB Lib.trimRightB
 rw[zXN,List.all_reverse,zXK,List.all_reverse]
theorem yVj(s:ByteArray)(hs:s.size<=140737488355328)(w:World):Calls prog 183 #[.string s] w λe w'=>e=.returned (.tuple #[zWt (zZ6 2 s.data.toList),.bool (okS 2 s.data.toList)])/\Pu w w':=by
 refine yKO _ w _ (alB λw1 ax aE=>(yYX s hs w1).mono ?_)
 rintro e w2 ⟨rfl,ar⟩
 refine⟨_,rfl,(Any.strings_Trim_one Tryz.lays160 s 32 (by decide) w2 (by omega)).mono ?_⟩
 rintro e w3 ⟨rfl,oq⟩
 have aA:Pu w2 w3:=by
  rcases oq with h|h
  ·rw[h];exact Pu.refl _
  ·rw[h];exact Pu.drew _
 refine⟨_,rfl,zQh ((ar.trans aA).blk aE) s25.symm rfl rfl λw4 bo fU ng=>⟨_,cl bo 0,_,cl bo 1,_,cl bo 2,?_,(ax.trans (ar.trans aA)).andNew fU λi hi=>by omega⟩⟩
 rw[zXC]
 have e:decide ((ByteArray.mk (Lib.trimB s.data.toList 32).toArray).size=0)=s.data.toList.all (· == 32):=by
  have h1:((ByteArray.mk (Lib.trimB s.data.toList 32).toArray).size=0) ↔ s.data.toList.all (· == 32)=true:=by
   rw[←yWN];simp[ByteArray.size]
  rw[Bool.eq_iff_iff,decide_eq_true_iff];exact h1
 rw[e];rfl
theorem yJA(s:ByteArray)(hs:s.size<=140737488355328)(w:World):Calls prog 185 #[.string s] w λe w'=>e=.returned (.tuple #[zWt (zZ6 3 s.data.toList),.bool (okS 3 s.data.toList)])/\Pu w w':=by
 refine yK8 _ w _ (alB λw1 ax aE=>(yYG s hs w1).mono ?_)
 rintro e w2 ⟨rfl,ar⟩
 exact⟨_,_,rfl,zQh (ar.blk aE) s25.symm rfl rfl λw3 bo fU ng=>⟨_,cl bo 0,_,cl bo 1,_,cl bo 2,rfl,(ax.trans ar).andNew fU λi hi=>by omega⟩⟩
theorem yKe(s:ByteArray)(hs:s.size<=140737488355328)(w:World):Calls prog 187 #[.string s] w λe w'=>e=.returned (.tuple #[zWt (zZ6 4 s.data.toList),.bool (okS 4 s.data.toList)])/\Pu w w':=by
 refine yKL _ w _ (alB λw1 ax aE=>(zYf s hs w1).mono ?_)
 rintro e w2 ⟨rfl,ar⟩
 exact⟨_,rfl,zQh (ar.blk aE) s25.symm rfl rfl λw3 bo fU ng=>⟨_,cl bo 0,_,cl bo 1,_,cl bo 2,rfl,(ax.trans ar).andNew fU λi hi=>by omega⟩⟩
theorem yKZ(s:ByteArray)(hs:s.size<=140737488355328)(w:World):Calls prog 189 #[.string s] w λe w'=>e=.returned (.tuple #[zWt (zZ6 5 s.data.toList),.bool (okS 5 s.data.toList)])/\Pu w w':=by
 refine yWi _ w _ (alB λw1 ax aE=>(yYX s hs w1).mono ?_)
 rintro e w2 ⟨rfl,ar⟩
 exact⟨_,rfl,zQh (ar.blk aE) s25.symm rfl rfl λw3 bo fU ng=>⟨_,cl bo 0,_,cl bo 1,_,cl bo 2,rfl,(ax.trans ar).andNew fU λi hi=>by omega⟩⟩
theorem xXi{f:Fld}(hf:zQn f=true):∃K,zQU f.kind=some K/\zQv prog K.rd=true/\∀(s:ByteArray),s.size<=140737488355328->∀w,Calls prog K.rd #[.string s] w λe w'=>e=.returned (.tuple #[zWt (zZ6 f.kind s.data.toList),.bool (okS f.kind s.data.toList)])/\Pu w w':=by
 rcases yX7 hf with⟨e,_⟩|⟨e,_⟩|⟨e,_⟩|⟨e,_⟩|⟨e,_⟩
 ·rw[e];exact⟨_,rfl,by kernel_rfl,λs _ w=>yZ1 s w⟩
 ·rw[e];exact⟨_,rfl,by kernel_rfl,yVj⟩
 ·rw[e];exact⟨_,rfl,by kernel_rfl,yJA⟩
 ·rw[e];exact⟨_,rfl,by kernel_rfl,yKe⟩
 ·rw[e];exact⟨_,rfl,by kernel_rfl,yKZ⟩
end Go.Proofs.YtaeecpjhfmcliaaGreatDoor
/- Table: rows that a conversion of a text has made. No condition. -/
namespace Go.Proofs.YtaeecpjhfmcliaaGreatDoor
open Go.Sh Go.RowKit Tryz
def yXL(w0 w:World)(s:SV)(l:List UInt8):Prop:=∃(g:Nat) (cur:Array Value) (fz:Nat × Nat),s.a=some ⟨g,0,none⟩/\w.heap[g]?=some (.cells cur 5 fz)/\cur.size<=fz.1/\s.len=l.length/\s.len<=s.cap/\s.cap<=maxLen/\cur.size=s.cap/\cur.toList.take s.len=l.map u8V/\w0.heap.size<=g
def zWj(w0 w:World)(s:SV)(l:List UInt8):Prop:=yXL w0 w s l∨zQe w0 w s l
theorem zWj.pu{w0 w w':World}{s:SV}{l:List UInt8}(h:zWj w0 w s l)(hp:Pu w w'):zWj w0 w' s l:=by
 rcases h with⟨g,cur,fz,h1,h2,h3⟩|h
 ·exact .inl ⟨g,cur,fz,h1,hp.blk h2,h3⟩
 ·exact .inr (h.pu hp)
theorem zWj.len{w0 w:World}{s:SV}{l:List UInt8}(h:zWj w0 w s l):s.len=l.length:=by
 rcases h with⟨g,cur,fz,h1,h2,h3,h4,_⟩|h
 ·exact h4
 ·exact h.len
theorem yXL.cell {w0 w:World} {s:SV} {l:List UInt8} (h:yXL w0 w s l) {j:Nat} {b:UInt8} (hj:l[j]?=some b):∃a,s.a=some a/\w.cell? (a.add j)=some (u8V b):=by
 obtain⟨g,cur,fz,h1,h2,h3,h4,h5,h6,h7,h8,_⟩:=h
 refine⟨_,h1,?_⟩
 rw[zQr,zQF h2,Nat.zero_add]
 have e:(cur.toList.take s.len)[j]?=some (u8V b):=by rw[h8,List.getElem?_map,hj];rfl
 rw[List.getElem?_take]at e
 split at e
 ·simpa using e
 ·cases e
theorem zWj.cell {w0 w:World} {s:SV} {l:List UInt8} (h:zWj w0 w s l) {j:Nat} {b:UInt8} (hj:l[j]?=some b):∃a,s.a=some a/\w.cell? (a.add j)=some (u8V b):=by
 rcases h with h|h
 ·exact h.cell hj
 ·exact h.cell hj
theorem zWj.low{w0 w1 w:World}{s:SV}{l:List UInt8}(h:zWj w1 w s l)(hz:w0.heap.size<=w1.heap.size):zWj w0 w s l:=by
 rcases h with⟨g,cur,fz,h1,h2,h3,h4,h5,h6,h7,h8,h9⟩|h
 ·exact .inl ⟨g,cur,fz,h1,h2,h3,h4,h5,h6,h7,h8,Nat.le_trans hz h9⟩
 ·exact .inr (h.low hz)
theorem yXL.push {w0 w:World} {s:SV} {l:List UInt8} (h:yXL w0 w s l) (hz:w0.heap.size<=w.heap.size) {r:Nat} {b:UInt8} {c:Array Value} (hr:w.heap[r]?=some (.cells c 5)) (hc:c[0]?=some (u8V b)) (hb:l.length<=1000000) :
  ∃(s':SV) (w':World),(Builtin.append_ #[22,22] 22 #[.slice s.a s.len s.cap,.slice (some ⟨r,0,none⟩) 1 1]).run prog w=.ok (.slice s'.a s'.len s'.cap) w'/\zWj w0 w' s' (l ++ [b])/\Fr (· ∈ zQb s) w w':=by
 have hcell:=λ(j:Nat) (x:UInt8) (hj:l[j]?=some x)=>h.cell hj
 obtain⟨g,cur,fz,h1,h2,h3,h4,h5,h6,h7,h8,h9⟩:=h
 have hi:=yWs
 obtain⟨i,i1,i2,i3,i4⟩:=info_parts hi
 have hnews:∀j u,[u8V b][j]?=some u->w.cell? ((⟨r,0,none⟩:Addr).add j)=some u:=λj u hu=>by
  cases j with
  | zero=>simp at hu;subst hu;rw[xZm,zQF hr];exact hc
  | succ j=>simp at hu
 have hgl:g<w.heap.size:=zQz h2
 by_cases hroom:s.len+1<=s.cap
 ·have hin:s.len<cur.size:=by omega
  have hfro:w.frozen? ⟨g,s.len,none⟩=false:=by
   obtain⟨lo,hi'⟩:=fz
   simp only[World.frozen?,h2,Bool.and_eq_false_iff,decide_eq_false_iff_not]
   left;simp only at h3;omega
  have hcl:w.cell? ⟨g,s.len,none⟩=some cur[s.len]:=by rw[zQF h2];simp[hin]
  have hst:(storeCells ⟨g,s.len,none⟩ [u8V b] 0).run prog w=.ok () (w.setCell ⟨g,s.len,none⟩ (u8V b)):=by
   simp only[storeCells,Sem.run_bind,zQr,Nat.add_zero]
   rw[run_store prog w _ _ _ rfl,hcl]
   simp[hfro]
  have hf:=run_firstCells_some (P:=prog) w i.size 1 ⟨r,0,none⟩ 1 1 [u8V b] (by rw[i3];rfl) hnews
  have hrun:(Builtin.append_ #[22,22] 22 #[.slice s.a s.len s.cap,.slice (some ⟨r,0,none⟩) 1 1]).run prog w=.ok (.slice s.a (s.len+1) s.cap) (w.setCell ⟨g,s.len,none⟩ (u8V b)):=by
   rw[h1]
   rw[i3]at hf
   simp[Builtin.append_,run_underlying u37,sizeOf,typeInfo,i1,i3,Builtin.lenOf,hroom,hf,Addr.add_lit,hst]
  refine⟨⟨s.a,s.len+1,s.cap⟩,_,hrun,.inl ⟨g,cur.setIfInBounds s.len (u8V b),fz,h1,zJe h2 _ _,by rw[Array.size_setIfInBounds];exact h3,by simp[h4],hroom,h6,by rw[Array.size_setIfInBounds];exact h7,?_,h9⟩,?_⟩
  ·rw[Array.toList_setIfInBounds,List.map_append,←h8]
   apply List.ext_getElem?
   intro j
   show(List.take (s.len+1) _)[j]?=_
   rw[List.getElem?_take]
   rcases Nat.lt_trichotomy j s.len with hj|hj|hj
   ·rw[if_pos (by omega),List.getElem?_set_ne (by omega),List.getElem?_append_left (by rw[List.length_take,Array.length_toList];omega),List.getElem?_take,if_pos hj]
   ·subst hj
    rw[if_pos (by omega),List.getElem?_set_self (by rw[Array.length_toList];exact hin),List.getElem?_append_right (by rw[List.length_take];omega),List.length_take,Array.length_toList,show s.len - min s.len cur.size=0 by omega];rfl
   ·rw[if_neg (by omega),List.getElem?_eq_none]
    rw[List.length_append,List.length_take,List.length_map,List.length_singleton];omega
  ·have:=Fr.setCell w ⟨g,s.len,none⟩ (u8V b)
   exact⟨this.os,this.tape,this.output,this.size,λk hk hn=>this.block k hk (λe=>hn (by simp[zQb,h1,e]))⟩
 ·have hlen:(l.map u8V).length=s.len * i.size:=by rw[i3,List.length_map];omega
  have holds:∀j u,(l.map u8V)[j]?=some u->w.cell? ((⟨g,0,none⟩:Addr).add j)=some u:=λj u hu=>by
   obtain⟨x,hx,rfl⟩:∃x,l[j]?=some x/\u8V x=u:=by simpa using hu
   obtain⟨a,ha,hca⟩:=hcell j x hx
   rw[h1]at ha;cases ha;exact hca
  have hrun:=run_append_grow (P:=prog) w 22 37 5 i (.int .u8 0) u37 i1 i2 ⟨g,0,none⟩ s.len s.cap (l.map u8V) hlen holds ⟨r,0,none⟩ 1 1 [u8V b] (by rw[i3];rfl) hnews (by omega) (by omega) (growslice_fits (by omega) (by rw[i4];omega))
  have hge:=grownCap_ge w (s.len+1) s.cap 5
  have hcm:grownCap w (s.len+1) s.cap 5<=maxLen:=grownCap_le_maxLen w (s.len+1) s.cap 5 (by unfold maxLen;omega)
  refine⟨⟨some ⟨w.heap.size,0,none⟩,s.len+1,grownCap w (s.len+1) s.cap 5⟩,_,by rw[h1];exact hrun,.inr ⟨⟨by simp[h4],.inr ⟨w.heap.size,_,rfl,heap_alloc_new w.drew _,hge,hcm,?_,?_⟩⟩,λk hk=>by simp[zQb]at hk;omega⟩,?_⟩
  ·simp only[Array.size_append,List.size_toArray,List.length_map,List.length_singleton,size_zeroCells]
   show l.length+1+(grownCap w (s.len+1) s.cap 5 - (s.len+1)) * 1=_
   show l.length+1+(grownCap w (s.len+1) s.cap 5 - (s.len+1)) * 1=grownCap w (s.len+1) s.cap 5 * 1
   omega
  ·simp only[Array.toList_append,List.append_assoc]
   rw[←List.append_assoc,List.map_append]
   have e:(List.map u8V l ++ [u8V b]).length=(s.len+1) * 1:=by simp[h4]
   show List.take ((s.len+1) * 1) _=_
   rw[←e]
   exact List.take_left
  ·exact(Fr.drew w).trans (Fr.alloc w.drew _) λi hi _=>hi
theorem zWj.push {w0 w:World} {s:SV} {l:List UInt8} (h:zWj w0 w s l) (hp:Pu w0 w) {r:Nat} {b:UInt8} {c:Array Value} (hr:w.heap[r]?=some (.cells c 5)) (hc:c[0]?=some (u8V b)) (hb:l.length<=1000000) :
  ∃(s':SV) (w':World),(Builtin.append_ #[22,22] 22 #[.slice s.a s.len s.cap,.slice (some ⟨r,0,none⟩) 1 1]).run prog w=.ok (.slice s'.a s'.len s'.cap) w'/\zWj w0 w' s' (l ++ [b])/\Pu w0 w':=by
 rcases h with h|h
 ·obtain⟨g,cur,fz,h1,_,_,_,_,_,_,_,h9⟩:=id h
  obtain⟨s',w',e,h2,f⟩:=h.push hp.size hr hc hb
  exact⟨s',w',e,h2,hp.andNew f λi hi=>by simp[zQb,h1]at hi;omega⟩
 ·obtain⟨s',w',e,h2,f⟩:=h.one hp.size hr hc (by omega)
  exact⟨s',w',e,.inr h2,hp.andNew f λi hi=>h.2 i hi⟩
end Go.Proofs.YtaeecpjhfmcliaaGreatDoor
/- Table: the reference's header and row. No condition. -/
namespace Go.Proofs.YtaeecpjhfmcliaaGreatDoor
open Go.Sh Go.RowKit Tryz
theorem zQe.cat {w1 w:World} {s m:SV} {l news:List UInt8} (h:zQe w1 w s l) (hp:Pu w1 w) (hl:m.len=news.length) (hn:∀(j:Nat) (b:UInt8),news[j]?=some b->∃a,m.a=some a/\w.cell? (a.add j)=some (u8V b)) (hb:l.length+news.length<=2000000) :
  ∃(s':SV) (w':World),(Builtin.append_ #[22,22] 22 #[.slice s.a s.len s.cap,.slice m.a m.len m.cap]).run prog w=.ok (.slice s'.a s'.len s'.cap) w'/\zQe w1 w' s' (l ++ news)/\Pu w1 w':=by
 obtain⟨s',w',e,h2,f⟩:=h.app hp.size hl hn (by omega)
 exact⟨s',w',e,h2,hp.andNew f λi hi=>h.2 i hi⟩
theorem yYW {w:World} {r:Nat} {c:Array Value} {news:List UInt8} (hr:w.heap[r]?=some (.cells c 5)) (hc:c=(news.map u8V).toArray):∀(j:Nat) (b:UInt8),news[j]?=some b->∃a,(some (⟨r,0,none⟩:Addr))=some a/\w.cell? (a.add j)=some (u8V b):=λj b hj=>by
 refine⟨_,rfl,?_⟩
 rw[cl hr,hc];simp[hj]
end Go.Proofs.YtaeecpjhfmcliaaGreatDoor
/- Table: the bytes of a table; the law on them. No condition. -/
namespace Go.Proofs.YtaeecpjhfmcliaaGreatDoor
open Go.Sh Go.RowKit Tryz
def zQ1(t:Tbl):List UInt8:=zZO t ++ t.recs.flatMap (zJm zQp t.fields) ++ [26]
def zX3(t:Tbl):List UInt8:=if zQi t=0 then zQ1 t else []
structure zJt(t:Tbl):Prop where
 page:zQT t.page=true
 vf:zQG t.fields=0
 ne:t.fields ≠ []
 all:t.fields.all zQn=true
 n16:t.fields.length<=16
 w2:zX0 t.fields<=2000
 m300:t.recs.length<=300
 recs:∀x ∈ t.recs,zXs t.fields t.page x.v
theorem zJt.of{t:Tbl}(h:zQi t=0):zJt t:=by
 obtain⟨hpg,hvf,fK,hfb⟩:=zWl h
 obtain⟨h0,hall,_,gk,hw⟩:=zXf hvf
 exact⟨hpg,hvf,h0,hall,gk,hw,fK,λx hx=>zXs.of hall (zZB hfb x hx)⟩
theorem zWn{t:Tbl}(h:zJt t):(zZO t).length=13+16 * t.fields.length:=by
 have:∀{l:List Fld},l.all zQn=true->(l.flatMap zQE).length=16 * l.length:=by
  intro l
  induction l with
  | nil=>intro _;rfl
  | cons f l ih=>
   intro hl
   rw[List.flatMap_cons,List.length_append,zXW (zQR (List.all_eq_true.1 hl f (by simp))).2.1,ih (List.all_eq_true.2 λg hg=>List.all_eq_true.1 hl g (by simp[hg])),List.length_cons]
   omega
 unfold zZO
 simp only[List.length_append,zXe,List.length_cons,List.length_nil,this h.all]
 omega
theorem zVj{t:Tbl}(h:zJt t):∀k,k<=t.recs.length->(((t.recs.take k).flatMap (zJm zQp t.fields)).length:Int)=k * zX0 t.fields
 | 0,_=>by simp
 | k+1,hk=>by
  obtain⟨x,hx⟩:=zQZ (show k<t.recs.length by omega)
  rw[zQ8 hx,List.flatMap_append,List.length_append,List.flatMap_cons,List.flatMap_nil,List.append_nil]
  have h1:=zVj h k (by omega)
  have h2:=zKa h.all (h.recs x (List.mem_of_getElem? hx))
  rw[Int.natCast_add,h1,h2,Int.natCast_add,Int.add_mul];omega
theorem yXs {α β:Type} (g:α->List β) {l:List α} {k:Nat} {x:α} (h:l[k]?=some x):(l.take (k+1)).flatMap g=(l.take k).flatMap g ++ g x:=by
 rw[zQ8 h,List.flatMap_append];simp
theorem yVF{t:Tbl}(h:zJt t)(k:Nat)(hk:k<=t.recs.length):((t.recs.take k).flatMap (zJm zQp t.fields)).length<=600000:=by
 have h1:=zVj h k hk
 have h2:=h.m300
 have h3:=h.w2
 have h4:(k:Int) * zX0 t.fields<=300 * 2000:=by
  have hw:0<=zX0 t.fields:=by have:=zZD (WOk.of h.all);unfold zX0;omega
  exact Int.mul_le_mul (by omega) h3 hw (by omega)
 omega
theorem zYz{w:World}{t:Tbl}{f r:SV}(h:zXD w t f r)(ho:zJt t):Calls prog 123 #[zYj t f r] w λe w'=>∃q:SV,e=.returned (.slice q.a q.len q.cap)/\zQe w w' q (zQ1 t)/\Pu w w':=by
 have hm:=ho.m300
 have gk:=ho.n16
 have hrl:=h.recs.len
 have hh:=zWn ho
 refine yKN _ _ _ w _ (alB λw1 ax aE=>⟨_,cl aE 0,_,cl aE 1,_,cl aE 2,(yJg (h.pu ax) ho.vf (by omega)).mono ?_⟩)
 rintro e w2 ⟨q,rfl,hq,ar⟩
 refine⟨q,rfl,_,cl (ar.blk aE) 2,?_⟩
 refine zQ0 t.recs.length (λk u w'=>u.2=(k:Int)/\zQe w1 w' u.1 (zZO t ++ (t.recs.take k).flatMap (zJm zQp t.fields))/\Pu w1 w') ⟨rfl,by simpa using hq,ar⟩ ?_
 rintro k J ⟨u1,u2⟩ w3 hk ⟨rS,hr,hp⟩ hJ
 obtain rfl:u2=(k:Int):=rS
 have hr:zQe w1 w3 u1 (zZO t ++ (t.recs.take k).flatMap (zJm zQp t.fields)):=hr
 have hrs:=yVF ho k hk
 dsimp only
 refine Br.of (λd=>?_) (λd=>?_)
 ·have aG:k<t.recs.length:=by have:=zQk d;omega
  obtain⟨x,hx⟩:=zQZ aG
  have hR:=ho.recs x (List.mem_of_getElem? hx)
  obtain⟨a,s,ha,hi,hs,c0,c1⟩:=yQz (h.recs.pu (ax.trans hp)) hx
  refine⟨a,ha,by omega,by omega,_,c0,s,c1,zYt rfl s46.symm rfl λw4 aJ sK cA=>⟨_,cl ((hp.trans aJ).blk aE) 1,_,cl cA 0,s,cl cA 1,?_⟩⟩
  refine(row_c (sh:=zQp) (r:=x) (h.fields.pu (ax.trans (hp.trans aJ))) (hs.pu aJ) hR.1 gk (WOk.of ho.all) (hR.writes ho.all) (hR.ne ho.all ho.ne)).mono ?_
  rintro e w5 ⟨m,rfl,hm5,aV⟩
  have hl5:=zKa ho.all hR
  have mr:=ho.w2
  obtain⟨q',w6,e6,r6,p6⟩:=((hr.pu aJ).pu aV).cat ((hp.trans aJ).trans aV) (m:=m) hm5.len (λj b hj=>hm5.cell hj) (by rw[List.length_append];omega)
  refine⟨m,rfl,q',w6,e6,?_⟩
  rw[zQa (by omega) (by omega)]
  refine hJ _ _ aG ⟨by dsimp only;omega,?_,p6⟩
  dsimp only
  rw[yXs _ hx,←List.append_assoc];exact r6
 ·have aG:k=t.recs.length:=by have:=zQd d;omega
  subst aG
  rw[List.take_length]at hr hrs
  refine alB λw4 aJ cA=>?_
  obtain⟨q',w5,e5,r5,p5⟩:=(hr.pu aJ).cat (hp.trans aJ) (m:=⟨some ⟨w3.heap.size,0,none⟩,1,1⟩) (news:=[26]) rfl (yYW cA rfl) (by rw[List.length_append,List.length_singleton];omega)
  exact⟨q',w5,e5,q',rfl,r5.low ax.size,ax.trans p5⟩
theorem yJl{w:World}{t:Tbl}{f r:SV}(h:zXD w t f r)(hl:Lim.ok t.fields):Calls prog 86 #[zYj t f r] w λe w'=>∃q:SV,e=.returned (.tuple #[.slice q.a q.len q.cap,.int .i64 (zQi t)])/\zQe w w' q (zX3 t)/\Pu w w':=by
 refine yYB _ _ _ w _ (alB λw1 ax aE=>⟨_,cl aE 0,_,cl aE 1,_,cl aE 2,(zZu (h.pu ax) hl).mono ?_⟩)
 rintro e w2 ⟨rfl,ar⟩
 have b2:=ar.blk aE
 refine⟨_,rfl,Br.of (λd=>⟨⟨none,0,0⟩,rfl,by unfold zX3;rw[if_neg (zQ5 d)];exact zQe.nil w w2,ax.trans ar⟩) (λd=>?_)⟩
 have hv:=zQs d
 refine⟨_,cl b2 0,_,cl b2 1,_,cl b2 2,(zYz (h.pu (ax.trans ar)) (zJt.of hv)).mono ?_⟩
 rintro e w3 ⟨q,rfl,hq,aA⟩
 exact⟨q,rfl,q,by rw[hv],by unfold zX3;rw[if_pos hv];exact hq.low (ax.trans ar).size,(ax.trans ar).trans aA⟩
end Go.Proofs.YtaeecpjhfmcliaaGreatDoor
/- Table: bytes that are handed in; parts of a row's bytes. No condition. -/
namespace Go.Proofs.YtaeecpjhfmcliaaGreatDoor
open Go.Sh Go.RowKit Tryz
theorem addr2(a:Addr)(i j:Nat):(a.add i).add j=a.add (i+j):=by
 unfold Addr.add
 by_cases hi:i=0
 ·subst hi;simp
 ·by_cases hj:j=0
  ·subst hj;simp[hi]
  ·simp[hi,hj,Nat.add_assoc]
structure ByV(w:World)(s:SV)(d:List UInt8):Prop where
 len:s.len=d.length
 cap:s.len<=s.cap
 lim:s.len<=140737488355328
 get:∀(j:Nat) (b:UInt8),d[j]?=some b->∃a,s.a=some a/\w.cell? (a.add (j * 1))=some (u8V b)
theorem ByV.pu{w w':World}{s:SV}{d:List UInt8}(h:ByV w s d)(hp:Pu w w'):ByV w' s d:=⟨h.len,h.cap,h.lim,λj b hj=>by
 obtain⟨a,h1,h2⟩:=h.get j b hj
 exact⟨a,h1,hp.cell h2⟩⟩
theorem ByV.of{w:World}{s:SV}{d:List UInt8}(h:zXF w s d):ByV w s d:=⟨h.len,h.cap,h.lim,λj b hj=>by
 obtain⟨a,h1,_,h2⟩:=h.u8 hj
 exact⟨a,h1,h2⟩⟩
theorem zQe.by{w0 w:World}{s:SV}{d:List UInt8}(h:zQe w0 w s d)(hb:d.length<=140737488355328):ByV w s d:=⟨h.len,h.1.le_cap.1,by have:=h.len;omega,λj b hj=>by
 obtain⟨a,h1,h2⟩:=h.cell hj
 exact⟨a,h1,by rw[Nat.mul_one];exact h2⟩⟩
theorem yVo {d:List UInt8} {lo n j:Nat} {b:UInt8} (h:((d.drop lo).take n)[j]?=some b):d[lo+j]?=some b:=by
 rw[List.getElem?_take]at h
 split at h
 ·rw[List.getElem?_drop]at h;exact h
 ·cases h
theorem ByV.sub{w:World}{s:SV}{d:List UInt8}(h:ByV w s d){lo hi:Nat}(h1:lo<=hi)(h2:hi<=d.length):ByV w ⟨if s.cap=lo then s.a else s.a.map (λx=>x.add (lo * 1)),hi - lo,s.cap - lo⟩ ((d.drop lo).take (hi - lo)):=by
 have hl:=h.len
 have hc:=h.cap
 have hm:=h.lim
 refine⟨by rw[List.length_take,List.length_drop];show hi - lo=_;omega,by show hi - lo<=s.cap - lo;omega,by show hi - lo<=_;omega,λj b hj=>?_⟩
 have jH:=yVo hj
 obtain⟨a,ha,hcell⟩:=h.get _ _ jH
 have hlt:=(List.getElem?_eq_some_iff.1 jH).1
 have rU:=(List.getElem?_eq_some_iff.1 hj).1
 rw[List.length_take,List.length_drop]at rU
 refine⟨a.add (lo * 1),?_,?_⟩
 ·show(if s.cap=lo then s.a else s.a.map (λx=>x.add (lo * 1)))=_
  rw[if_neg (by omega),ha];rfl
 ·rw[addr2,show lo * 1+j * 1=(lo+j) * 1 by omega];exact hcell
theorem ByV.part3{w:World}{s:SV}{d:List UInt8}(h:ByV w s d){lo hi:Nat}(h1:lo<=hi)(h2:hi<=d.length):∃l:SV,(Instr.sliceAt 22 (.slice s.a s.len s.cap) (some (.int .i64 (lo:Int))) (some (.int .i64 (hi:Int))) (some (.int .i64 (hi:Int)))).run prog w=.ok (.slice l.a l.len l.cap) w/\ByV w l ((d.drop lo).take (hi - lo)):=by
 have hl:=h.len
 have hc:=h.cap
 have hm:=h.lim
 have hs:(sizeOf 5).run prog w=.ok 1 w:=Tryz.sizeOf5 w
 refine⟨⟨if hi=lo then s.a else s.a.map (λx=>x.add (lo * 1)),hi - lo,hi - lo⟩,?_,by rw[List.length_take,List.length_drop];show hi - lo=_;omega,Nat.le_refl _,by show hi - lo<=_;omega,λj b hj=>?_⟩
 ·simp[Instr.sliceAt,zQl u37,Instr.slice,hs,Instr.sliceBounds,Instr.sliceBound,asIntOf,show hi<=s.cap by omega,h1]
 ·have jH:=yVo hj
  obtain⟨a,ha,hcell⟩:=h.get _ _ jH
  have rU:=(List.getElem?_eq_some_iff.1 hj).1
  rw[List.length_take,List.length_drop]at rU
  refine⟨a.add (lo * 1),?_,?_⟩
  ·show(if hi=lo then s.a else s.a.map (λx=>x.add (lo * 1)))=_
   rw[if_neg (by omega),ha];rfl
  ·rw[addr2,show lo * 1+j * 1=(lo+j) * 1 by omega];exact hcell
theorem yZq{w:World}{s:SV}{d:List UInt8}(h:ByV w s d):(convert 22 9 (.slice s.a s.len s.cap)).run prog w=.ok (.string (bs d)) w:=by
 have hl:=h.len
 rw[run_convert_bytes_string w 22 9 5 _ _ _ u37 u5 u9]
 cases ha:s.a with
 | none=>
  have hd:d=[]:=by
   cases d with
   | nil=>rfl
   | cons b d=>obtain⟨a,h1,_⟩:=h.get 0 b rfl;rw[ha]at h1;cases h1
  subst hd
  simp[Conv.bytesToString];rfl
 | some a=>
  have hld:(loadCells a s.len).run prog w=.ok ((d.map λb=>((b.toNat:Nat):Int)).map (Value.int .u8)).toArray w:=by
   have:=run_loadCells_list (P:=prog) w a ((d.map λb=>((b.toNat:Nat):Int)).map (Value.int .u8)) (λj v hj=>by
    simp only[List.getElem?_map,Option.map_map,Option.map_eq_some_iff]at hj
    obtain⟨b,hb,rfl⟩:=hj
    obtain⟨a',h1,h2⟩:=h.get j b hb
    rw[ha]at h1;cases h1
    rw[Nat.mul_one]at h2;exact h2)
   simpa[hl] using this
  rw[run_bytesToString w a s.len s.cap _ hld,foldl_push_bytes]
  congr 2
  apply zQI
  have e0:((⟨ByteArray.empty.data ++ (List.map (λn:Int=>UInt8.ofNat n.toNat) (d.map λb=>((b.toNat:Nat):Int))).toArray⟩:ByteArray)).data.toList=d.map ((λn:Int=>UInt8.ofNat n.toNat) ∘ λb=>((b.toNat:Nat):Int)):=by
   simp[ByteArray.empty,ByteArray.emptyWithCapacity];rfl
  refine e0.trans ?_
  show _=d
  conv=>rhs;rw[←List.map_id d]
  apply List.map_congr_left
  intro x _
  simp
def xQc(d:List UInt8):Nat:=d.foldr (λb a=>a * 256+b.toNat) 0
theorem zVA(b:UInt8)(d:List UInt8):xQc (b :: d)=xQc d * 256+b.toNat:=rfl
theorem yVD:∀d:List UInt8,xQc d<256 ^ d.length
 | []=>by simp[xQc]
 | b :: d=>by
  rw[zVA,List.length_cons,Nat.pow_succ]
  have:=yVD d
  have:=b.toNat_lt
  omega
theorem xQT{m:Nat}(h:m<4294967296):xQc (zWZ m 4)=m:=by
 unfold zWZ
 simp only[List.range,List.range.loop,List.map_cons,List.map_nil,zVA]
 have e:∀x:Nat,(UInt8.ofNat (x % 256)).toNat=x % 256:=λx=>by simp
 simp only[e,xQc,List.foldr_nil]
 omega
theorem or_low{a b:Nat}(ha:a<16777216)(hb:b<256):IntKind.i64.wrap ((BitVec.ofInt 64 (IntKind.i64.wrap ((a:Int) * 2 ^ 8)) ||| BitVec.ofInt 64 (IntKind.i64.wrap (b:Int))).toNat:Nat)=((a * 256+b:Nat):Int):=by
 rw[zQa (n:=(a:Int) * 2 ^ 8) (by omega) (by omega),zQa (n:=(b:Int)) (by omega) (by omega)]
 have e1:((a:Int) * 2 ^ 8)=((a * 256:Nat):Int):=by omega
 have e2:(BitVec.ofInt 64 ((a * 256:Nat):Int) ||| BitVec.ofInt 64 (b:Int)).toNat=a * 256+b:=by
  rw[BitVec.toNat_or]
  have h1:(BitVec.ofInt 64 ((a * 256:Nat):Int)).toNat=a * 256:=by rw[BitVec.ofInt_natCast,BitVec.toNat_ofNat];omega
  have h2:(BitVec.ofInt 64 (b:Int)).toNat=b:=by rw[BitVec.ofInt_natCast,BitVec.toNat_ofNat];omega
  rw[h1,h2]
  have:=Nat.shiftLeft_add_eq_or_of_lt (i:=8) (b:=b) (by omega) a
  rw[Nat.shiftLeft_eq]at this
  exact this.symm
 rw[e1,e2,zQa (by omega) (by omega)]
theorem xXf{w:World}{s:SV}{d:List UInt8}(h:ByV w s d)(h4:d.length=4):Calls prog 162 #[.slice s.a s.len s.cap] w λe w'=>e=.returned (.int .i64 (xQc d:Nat))/\Pu w w':=by
 refine yW1 _ w _ ?_
 have hl:=h.len
 rw[yYY,zQa (by omega) (by omega)]
 refine zQ0 4 (λk t w'=>t.1=(xQc (d.drop (4 - k)):Nat)/\t.2=3 - (k:Int)/\Pu w w') ⟨by rw[List.drop_eq_nil_of_le (by omega)];rfl,by dsimp only;omega,Pu.refl _⟩ ?_
 rintro k J ⟨t1,t2⟩ w2 hk ⟨h1,h2,hp⟩ hJ
 obtain rfl:t1=(xQc (d.drop (4 - k)):Nat):=h1
 obtain rfl:t2=3 - (k:Int):=h2
 dsimp only
 refine Br.of (λq=>?_) (λq=>?_)
 ·have aG:k<4:=by have:=zQk q;omega
  obtain⟨b,hb⟩:=zQZ (l:=d) (k:=3 - k) (by omega)
  obtain⟨a,ha,hc⟩:=(h.pu hp).get _ _ hb
  have hlt:=yVD (d.drop (4 - k))
  rw[List.length_drop,h4]at hlt
  have ze:xQc (d.drop (4 - k))<16777216:=Nat.lt_of_lt_of_le hlt (by
   rcases(by omega:k=0∨k=1∨k=2∨k=3)with rfl|rfl|rfl|rfl <;> decide)
  have hbl:=b.toNat_lt
  refine⟨by omega,a,ha,by omega,by omega,_,by rw[show(3 - (k:Int)).toNat=3 - k by omega];exact hc,?_⟩
  rw[or_low ze hbl,zQa (by omega) (by omega)]
  refine hJ _ _ aG ⟨?_,by dsimp only;omega,hp⟩
  dsimp only
  rw[show 4 - (k+1)=3 - k by omega,zXO hb,zVA,show 3 - k+1=4 - k by omega]
 ·have aG:k=4:=by have:=zQd q;omega
  subst aG
  exact⟨rfl,hp⟩
theorem bit_p:∀x:Nat,x<256->∀r:Nat,r<8->((IntKind.u8.wrap ((BitVec.ofInt 8 (((x:Nat):Int).fdiv (2 ^ (min r 8))) &&& BitVec.ofInt 8 1).toNat:Nat)) == 1)=x.testBit r:=by decide +kernel
def sum8(c0 c1 c2 c3 c4 c5 c6 c7:Bool):Nat:=(if c0 then 2 ^ 0 else 0)+(if c1 then 2 ^ 1 else 0)+(if c2 then 2 ^ 2 else 0)+(if c3 then 2 ^ 3 else 0)+(if c4 then 2 ^ 4 else 0)+(if c5 then 2 ^ 5 else 0)+(if c6 then 2 ^ 6 else 0)+(if c7 then 2 ^ 7 else 0)
theorem xXh:∀c0 c1 c2 c3 c4 c5 c6 c7:Bool,∀r:Nat,r<8->(UInt8.ofNat (sum8 c0 c1 c2 c3 c4 c5 c6 c7)).toNat.testBit r=[c0,c1,c2,c3,c4,c5,c6,c7].getD r false:=by decide +kernel
theorem yJB(bits:List Bool)(q:Nat){r:Nat}(hr:r<8):(UInt8.ofNat (zXT bits q)).toNat.testBit r=decide (bits[8 * q+r]?=some true):=by
 have e:zXT bits q=sum8 (decide (bits[8 * q+0]?=some true)) (decide (bits[8 * q+1]?=some true)) (decide (bits[8 * q+2]?=some true)) (decide (bits[8 * q+3]?=some true)) (decide (bits[8 * q+4]?=some true)) (decide (bits[8 * q+5]?=some true)) (decide (bits[8 * q+6]?=some true)) (decide (bits[8 * q+7]?=some true)):=by
  unfold zXT sum8 zJ2
  simp only[decide_eq_true_eq]
 rw[e,xXh _ _ _ _ _ _ _ _ r hr]
 rcases(by omega:r=0∨r=1∨r=2∨r=3∨r=4∨r=5∨r=6∨r=7)with rfl|rfl|rfl|rfl|rfl|rfl|rfl|rfl <;> rfl
def zX6(l:List Fld)(k:Nat):Nat:=((l.take k).filter (·.null)).length
theorem yJj(l:List Fld)(k:Nat):zX6 l k<=(l.filter (·.null)).length:=zZe l k
theorem zK0:∀{l:List Fld} {vs:List Val},vs.length=l.length->(zXi l vs).length=(l.filter (·.null)).length
 | [],_,_=>by simp[zXi]
 | f :: l,[],h=>by simp at h
 | f :: l,v :: vs,h=>by
  have ih:=zK0 (l:=l) (vs:=vs) (by simpa using h)
  unfold zXi
  rw[List.filter_cons]
  by_cases hn:f.null=true
  ·rw[if_pos hn,if_pos hn];simp only[List.length_cons];omega
  ·rw[if_neg hn,if_neg hn];exact ih
theorem zVF:∀(l:List Fld) (vs:List Val) (k:Nat),zXi l vs=zXi (l.take k) (vs.take k) ++ zXi (l.drop k) (vs.drop k)
 | [],_,_=>by simp[zXi]
 | f :: l,[],k=>by
  have:zXi (f :: l) []=[]:=rfl
  rw[this]
  cases k with
  | zero=>simp[zXi]
  | succ k=>cases h:List.drop (k+1) (f :: l) <;> simp[zXi]
 | f :: l,v :: vs,0=>by simp[zXi]
 | f :: l,v :: vs,k+1=>by
  have ih:=zVF l vs k
  simp only[List.take_succ_cons,List.drop_succ_cons]
  have e1:zXi (f :: l) (v :: vs)=if f.null then decide (v.kind=0) :: zXi l vs else zXi l vs:=rfl
  have e2:zXi (f :: l.take k) (v :: vs.take k)=if f.null then decide (v.kind=0) :: zXi (l.take k) (vs.take k)else zXi (l.take k) (vs.take k):=rfl
  rw[e1,e2]
  split
  ·rw[ih];rfl
  ·exact ih
theorem xQM {l:List Fld} {vs:List Val} (hl:vs.length=l.length) {k:Nat} {f:Fld} {v:Val} (hf:l[k]?=some f) (hv:vs[k]?=some v) (hn:f.null=true):(zXi l vs)[zX6 l k]?=some (decide (v.kind=0)):=by
 have hk:=(List.getElem?_eq_some_iff.1 hf).1
 have h1:(zXi (l.take k) (vs.take k)).length=zX6 l k:=zK0 (by rw[List.length_take,List.length_take];omega)
 rw[zVF l vs k,List.getElem?_append_right (by omega),h1,Nat.sub_self,zXO hf,zXO hv]
 unfold zXi;rw[if_pos hn];rfl
theorem yQC(sh:Fld->Val->List UInt8)(l:List Fld)(vs:List Val)(h:vs.length=l.length)(k:Nat):zX1 sh l vs=zX1 sh (l.take k) (vs.take k) ++ zX1 sh (l.drop k) (vs.drop k):=by
 unfold zX1
 rw[←List.flatMap_append,←List.zip_append (by rw[List.length_take,List.length_take];omega),List.take_append_drop,List.take_append_drop]
theorem xXk {l:List Fld} {r:Rec} {d:List UInt8} (hd:zJm zQp l r=d) {b:UInt8} (hb:d[0]?=some b):b=yX1 r.gone:=by
 rw[←hd]at hb
 unfold zJm at hb
 simpa using hb.symm
def zYM(l:List Fld)(k:Nat):Nat:=1+zXd l+((l.take k).map (λx:Fld=>x.width)).sum.toNat
theorem xQ8 {l:List Fld} {p:Int} {r:Rec} {d:List UInt8} (hall:l.all zQn=true) (hR:zXs l p r.v) (hd:zJm zQp l r=d) {k:Nat} {f:Fld} {v:Val} (hf:l[k]?=some f) (hv:r.v[k]?=some v):(d.drop (zYM l k)).take f.width.toNat=zQp f v:=by
 have hk:=(List.getElem?_eq_some_iff.1 hf).1
 have h1:=zX2 hall hR k (by omega)
 have hw:=(hR.2 k f v hf hv).len
 rw[←hd]
 unfold zJm zYM
 have hlen:([yX1 r.gone] ++ flN (zXd l) (zXi l r.v) ++ zX1 zQp (l.take k) (r.v.take k)).length=1+zXd l+((l.take k).map (λx:Fld=>x.width)).sum.toNat:=by
  simp only[List.length_append,zW6,List.length_singleton];omega
 rw[yQC zQp l r.v hR.1 k,←List.append_assoc,List.drop_append,List.drop_eq_nil_of_le (by omega),hlen,Nat.sub_self,List.drop_zero,List.nil_append,zXO hf,zXO hv]
 unfold zX1
 rw[List.zip_cons_cons,List.flatMap_cons]
 dsimp only
 rw[zYg,List.take_append_of_le_length (by omega),List.take_of_length_le (by omega)]
theorem yJu {l:List Fld} {p:Int} {r:Rec} {d:List UInt8} (hR:zXs l p r.v) (hd:zJm zQp l r=d) {k:Nat} {f:Fld} {v:Val} (hf:l[k]?=some f) (hv:r.v[k]?=some v) (hn:f.null=true) {b:UInt8} (hb:d[1+zX6 l k / 8]?=some b):b.toNat.testBit (zX6 l k % 8)=decide (v.kind=0):=by
 have hc:=xQM hR.1 hf hv hn
 have hlt:=(List.getElem?_eq_some_iff.1 hc).1
 rw[zK0 hR.1]at hlt
 have hq:zX6 l k / 8<zXd l:=by unfold zXd;omega
 have e:b=UInt8.ofNat (zXT (zXi l r.v) (zX6 l k / 8)):=by
  rw[←hd]at hb
  unfold zJm at hb
  rw[List.append_assoc,List.getElem?_append_right (by simp),List.getElem?_append_left (by simp[zW6];exact hq)]at hb
  simp only[List.length_singleton,Nat.add_sub_cancel_left]at hb
  rw[xXF hq]at hb
  exact(Option.some.inj hb).symm
 rw[e,yJB _ _ (Nat.mod_lt _ (by decide)),show 8 * (zX6 l k / 8)+zX6 l k % 8=zX6 l k by omega,hc]
 simp
theorem zW5 {l:List Fld} {k:Nat} {f:Fld} (hf:l[k]?=some f):zX6 l (k+1)=if f.null then zX6 l k+1 else zX6 l k:=zK1 hf
theorem yV5 {l:List Fld} (hall:l.all zQn=true) {k:Nat} {f:Fld} (hf:l[k]?=some f):zYM l (k+1)=zYM l k+f.width.toNat:=by
 have h1:=zKR hf
 have h2:=zZD ((WOk.of hall).take k)
 have h3:=WOk.of hall f (List.mem_of_getElem? hf)
 unfold zYM;rw[h1];omega
theorem xWr {l:List Fld} (hall:l.all zQn=true) {k:Nat} {f:Fld} (hf:l[k]?=some f):((zYM l k+f.width.toNat:Nat):Int)<=zX0 l:=by
 have hk:=(List.getElem?_eq_some_iff.1 hf).1
 have h1:=zKR hf
 have h2:=zZD ((WOk.of hall).take k)
 have h3:=WOk.of hall f (List.mem_of_getElem? hf)
 have h4:((l.take (k+1)).map (·.width)).sum<=(l.map (·.width)).sum:=by
  have e:l.map (·.width)=(l.take (k+1)).map (·.width) ++ (l.drop (k+1)).map (·.width):=by rw[←List.map_append,List.take_append_drop]
  have h5:=zZD (l:=l.drop (k+1)) λg hg=>WOk.of hall g (List.mem_of_mem_drop hg)
  rw[e,List.sum_append];omega
 unfold zYM zX0;omega
end Go.Proofs.YtaeecpjhfmcliaaGreatDoor
/- Table: the program's reading of a row's bytes. No condition. -/
set_option maxHeartbeats 2000000
namespace Go.Proofs.YtaeecpjhfmcliaaGreatDoor
open Go.Sh Go.RowKit Tryz
def appV(ay:SV)(p6:Option Addr)(c:Array Value)(K:World->Prop)(w:World):Prop:=
 alE (.cells c 73) w λbK dM=>∃az:SV,∃dP:World,(Builtin.append_ #[38,38] 38 #[.slice ay.a ay.len ay.cap,.slice (some ⟨bK,0,none⟩) 1 1]).run prog dM=.ok (.slice az.a az.len az.cap) dP/\
 zQg p6 λj3=>st1 (j3.add 1) (.slice az.a az.len az.cap) dP λfy=>K fy
def xW3(p6:Option Addr)(aI:Nat)(K:World->Prop)(w:World):Prop:=
 zQg p6 λnN=>∃ay:SV,w.cell? (nN.add 1)=some (.slice ay.a ay.len ay.cap)/\
 ∃am:Int,w.cell? ((⟨aI,0,none⟩:Addr).add 0)=some (.int .i64 am)/\
 ∃ao:Int,w.cell? ((⟨aI,0,none⟩:Addr).add 1)=some (.int .i64 ao)/\
 ∃ap:ByteArray,w.cell? ((⟨aI,0,none⟩:Addr).add 2)=some (.string ap)/\
 appV ay p6 #[.int .i64 am,.int .i64 ao,.string ap] K w
structure zYn(w0 wr:World)(r4 r6:Nat)(g:Bool)(vs:List Val)(w:World):Prop where
 ex:∃q:SV,w.heap[r6]?=some (.cells #[.bool g,.slice q.a q.len q.cap] 67)/\zJy wr w q vs
 b4:w.heap[r4]?=some (.cells #[.bool false,.slice none 0 0] 67)
 sz:wr.heap.size<=w.heap.size
 pu:Pu w0 w
 l4:r4<wr.heap.size
 l6:r6<wr.heap.size
 ne:r4 ≠ r6
 z4:w0.heap.size<=r4
 z6:w0.heap.size<=r6
theorem zYn.on{w0 wr w w':World}{r4 r6:Nat}{g:Bool}{vs:List Val}(h:zYn w0 wr r4 r6 g vs w)(hp:Pu w w'):zYn w0 wr r4 r6 g vs w':=by
 obtain⟨q,h1,h2⟩:=h.ex
 exact⟨⟨q,hp.blk h1,h2.pu hp⟩,hp.blk h.b4,Nat.le_trans h.sz hp.size,h.pu.trans hp,h.l4,h.l6,h.ne,h.z4,h.z6⟩
theorem xJV {w0 wr w:World} {r4 r6:Nat} {g:Bool} {vs:List Val} (h:zYn w0 wr r4 r6 g vs w) {q:SV} (h6:w.heap[r6]?=some (.cells #[.bool g,.slice q.a q.len q.cap] 67)) (hq:zJy wr w q vs) {v:Val} {c:Array Value} (hc:c=#[.int .i64 v.kind,.int .i64 v.n,.string v.s]) (hl:vs.length<=1000000) {K:World->Prop}
  (hK:∀w',zYn w0 wr r4 r6 g (vs ++ [v]) w'->K w'):appV q (some ⟨r6,0,none⟩) c K w:=by
 refine alB λw1 ax aE=>?_
 have h1:=h.on ax
 have z1:=ax.size
 have z:=h.sz
 obtain⟨q',w2,e2,r2,f2⟩:=(hq.pu ax).push (by omega) aE hc hl
 have n6:¬r6 ∈ zQb q:=λhc=>by have:=hq.2 _ hc;have:=h.l6;omega
 have n4:¬r4 ∈ zQb q:=λhc=>by have:=hq.2 _ hc;have:=h.l4;omega
 have b6:=f2.blk (ax.blk h6) n6
 have b4:=f2.blk h1.b4 n4
 refine⟨q',w2,e2,zQw (o:=1) b6 (by simp) λwx ex hbx=>?_⟩
 have fx:Fr (·=r6) w2 wx:=by rw[ex];exact Fr.cell w2 _ _ _
 have zx:wx.heap.size=w2.heap.size:=by rw[ex];simp
 have z2:=f2.size
 have h46:=h.ne
 have hz6:=h.z6
 have hl6:=h.l6
 have wt:=h.l4
 have hz4:=h.z4
 refine hK wx ⟨⟨q',hbx,r2.fr fx λi hi=>by have:=r2.2 i hi;omega⟩,fx.blk b4 (by omega),by omega,?_,h.l4,h.l6,h.ne,h.z4,h.z6⟩
 have p2:Pu w0 w2:=h1.pu.andNew f2 λi hi=>by have:=hq.2 i hi;omega
 exact p2.andNew fx λi hi=>by omega
theorem yVa {w0 wr w:World} {r4 r6 aI:Nat} {g:Bool} {vs:List Val} (h:zYn w0 wr r4 r6 g vs w) {v:Val} (hv:w.heap[aI]?=some (.cells #[.int .i64 v.kind,.int .i64 v.n,.string v.s] 73)) (hl:vs.length<=1000000) {K:World->Prop}
  (hK:∀w',zYn w0 wr r4 r6 g (vs ++ [v]) w'->K w'):xW3 (some ⟨r6,0,none⟩) aI K w:=by
 obtain⟨q,h6,hq⟩:=h.ex
 exact⟨q,cl h6 1,_,cl hv 0,_,cl hv 1,_,cl hv 2,xJV h h6 hq rfl hl hK⟩
def zJ6(K:Bool->World->Prop)(p6:Option Addr)(b9 ok:Bool)(aI:Nat)(w:World):Prop:=Br b9 (xW3 p6 aI (K ok) w) (xW3 p6 aI (K false) w)
def yJd(K:Bool->World->Prop)(p6:Option Addr)(b9:Bool)(bU:Nat)(bB:SV)(w9:World):Prop:=
 dwE w9 λbT=>
 ∃S1:World->Prop,S1 bT/\
 ∃jb:Int,(∀w',S1 w'->w'.cell? ((⟨bU,0,none⟩:Addr).add 1)=some (.int .i64 jb))/\
 (
 Calls prog 145 #[] bT λe bD=>
 ∃c9:Option Nat,e=.returned (.map c9)/\
 ∃S2:World->Prop,S2 bD/\(∀u,S2 u->S1 u)/\
 ∃bj:Int,∃bl:Int,∃bm:Int,∃bn:Value,∃aL:Value,(∀w',S2 w'->(Instr.lookup 176 (.map c9) (.int .i64 jb) false).run prog w'=.ok (.agg #[.int .u8 bj,.int .i64 bl,.int .i64 bm,bn,aL]) w')/\
 (
 ∃cF:ByteArray,∃cH:World,(convert 22 9 (.slice bB.a bB.len bB.cap)).run prog bD=.ok (.string cF) cH/\
 ∃S3:World->Prop,S3 cH/\(∀u,S3 u->S2 u)/\
 (
 fnE aL λf75 first75 aO=>
 zQv prog f75=true/\Calls prog f75 (first75.toList ++ (([.string cF]:List Value) ++ aO.toList)).toArray cH λe cR=>
 ∃ah:Int,∃ai:Int,∃aj:ByteArray,∃aD:Bool,e=.returned (.tuple #[.agg #[.int .i64 ah,.int .i64 ai,.string aj],.bool aD])/\
 alE (.cells #[.int .i64 0,.int .i64 0,.string (⟨#[]⟩:ByteArray)] 73) cR λaI cP=>
 stA prog 73 (⟨aI,0,none⟩:Addr) #[.int .i64 ah,.int .i64 ai,.string aj] cP λbX=>
 zJ6 K p6 b9 aD aI bX)/\(
 alE (.cells #[.int .i64 0,.int .i64 0,.string (⟨#[]⟩:ByteArray)] 73) cH λaI fY=>
 ∃S4:World->Prop,S4 fY/\(∀u,S4 u->S3 u)/\
 fnE aL λf75 first75 aO=>
 zQv prog f75=true/\Calls prog f75 (first75.toList ++ (([.string cF]:List Value) ++ aO.toList)).toArray fY λe ga=>
 ∃ah:Int,∃ai:Int,∃aj:ByteArray,∃aD:Bool,e=.returned (.tuple #[.agg #[.int .i64 ah,.int .i64 ai,.string aj],.bool aD])/\
 stA prog 73 (⟨aI,0,none⟩:Addr) #[.int .i64 ah,.int .i64 ai,.string aj] ga λfA=>
 zJ6 K p6 b9 aD aI fA))/\(
 alE (.cells #[.int .i64 0,.int .i64 0,.string (⟨#[]⟩:ByteArray)] 73) bD λaI rA=>
 ∃S5:World->Prop,S5 rA/\(∀u,S5 u->S2 u)/\
 ∃cF:ByteArray,∃eM:World,(convert 22 9 (.slice bB.a bB.len bB.cap)).run prog rA=.ok (.string cF) eM/\
 ∃S6:World->Prop,S6 eM/\(∀u,S6 u->S5 u)/\
 fnE aL λf75 first75 aO=>
 zQv prog f75=true/\Calls prog f75 (first75.toList ++ (([.string cF]:List Value) ++ aO.toList)).toArray eM λe tM=>
 ∃ah:Int,∃ai:Int,∃aj:ByteArray,∃aD:Bool,e=.returned (.tuple #[.agg #[.int .i64 ah,.int .i64 ai,.string aj],.bool aD])/\
 stA prog 73 (⟨aI,0,none⟩:Addr) #[.int .i64 ah,.int .i64 ai,.string aj] tM λjK=>
 zJ6 K p6 b9 aD aI jK))/\(
 (
 ∃cF:ByteArray,∃k7:World,(convert 22 9 (.slice bB.a bB.len bB.cap)).run prog bT=.ok (.string cF) k7/\
 ∃S7:World->Prop,S7 k7/\(∀u,S7 u->S1 u)/\
 (
 Calls prog 145 #[] k7 λe lC=>
 ∃c9:Option Nat,e=.returned (.map c9)/\
 ∃S8:World->Prop,S8 lC/\(∀u,S8 u->S7 u)/\
 ∃bj:Int,∃bl:Int,∃bm:Int,∃bn:Value,∃aL:Value,(∀w',S8 w'->(Instr.lookup 176 (.map c9) (.int .i64 jb) false).run prog w'=.ok (.agg #[.int .u8 bj,.int .i64 bl,.int .i64 bm,bn,aL]) w')/\
 (
 fnE aL λf75 first75 aO=>
 zQv prog f75=true/\Calls prog f75 (first75.toList ++ (([.string cF]:List Value) ++ aO.toList)).toArray lC λe mj=>
 ∃ah:Int,∃ai:Int,∃aj:ByteArray,∃aD:Bool,e=.returned (.tuple #[.agg #[.int .i64 ah,.int .i64 ai,.string aj],.bool aD])/\
 alE (.cells #[.int .i64 0,.int .i64 0,.string (⟨#[]⟩:ByteArray)] 73) mj λaI mL=>
 stA prog 73 (⟨aI,0,none⟩:Addr) #[.int .i64 ah,.int .i64 ai,.string aj] mL λkQ=>
 zJ6 K p6 b9 aD aI kQ)/\(
 alE (.cells #[.int .i64 0,.int .i64 0,.string (⟨#[]⟩:ByteArray)] 73) lC λaI rt=>
 ∃S9:World->Prop,S9 rt/\(∀u,S9 u->S8 u)/\
 fnE aL λf75 first75 aO=>
 zQv prog f75=true/\Calls prog f75 (first75.toList ++ (([.string cF]:List Value) ++ aO.toList)).toArray rt λe k9=>
 ∃ah:Int,∃ai:Int,∃aj:ByteArray,∃aD:Bool,e=.returned (.tuple #[.agg #[.int .i64 ah,.int .i64 ai,.string aj],.bool aD])/\
 stA prog 73 (⟨aI,0,none⟩:Addr) #[.int .i64 ah,.int .i64 ai,.string aj] k9 λkW=>
 zJ6 K p6 b9 aD aI kW))/\(
 alE (.cells #[.int .i64 0,.int .i64 0,.string (⟨#[]⟩:ByteArray)] 73) k7 λaI t8=>
 ∃S10:World->Prop,S10 t8/\(∀u,S10 u->S7 u)/\
 Calls prog 145 #[] t8 λe ua=>
 ∃c9:Option Nat,e=.returned (.map c9)/\
 ∃S11:World->Prop,S11 ua/\(∀u,S11 u->S10 u)/\
 ∃bj:Int,∃bl:Int,∃bm:Int,∃bn:Value,∃aL:Value,(∀w',S11 w'->(Instr.lookup 176 (.map c9) (.int .i64 jb) false).run prog w'=.ok (.agg #[.int .u8 bj,.int .i64 bl,.int .i64 bm,bn,aL]) w')/\
 fnE aL λf75 first75 aO=>
 zQv prog f75=true/\Calls prog f75 (first75.toList ++ (([.string cF]:List Value) ++ aO.toList)).toArray ua λe wZ=>
 ∃ah:Int,∃ai:Int,∃aj:ByteArray,∃aD:Bool,e=.returned (.tuple #[.agg #[.int .i64 ah,.int .i64 ai,.string aj],.bool aD])/\
 stA prog 73 (⟨aI,0,none⟩:Addr) #[.int .i64 ah,.int .i64 ai,.string aj] wZ λmE=>
 zJ6 K p6 b9 aD aI mE))/\(
 alE (.cells #[.int .i64 0,.int .i64 0,.string (⟨#[]⟩:ByteArray)] 73) bT λaI lk=>
 ∃S12:World->Prop,S12 lk/\(∀u,S12 u->S1 u)/\
 (
 Calls prog 145 #[] lk λe m7=>
 ∃c9:Option Nat,e=.returned (.map c9)/\
 ∃S13:World->Prop,S13 m7/\(∀u,S13 u->S12 u)/\
 ∃bj:Int,∃bl:Int,∃bm:Int,∃bn:Value,∃aL:Value,(∀w',S13 w'->(Instr.lookup 176 (.map c9) (.int .i64 jb) false).run prog w'=.ok (.agg #[.int .u8 bj,.int .i64 bl,.int .i64 bm,bn,aL]) w')/\
 ∃cF:ByteArray,∃lm:World,(convert 22 9 (.slice bB.a bB.len bB.cap)).run prog m7=.ok (.string cF) lm/\
 ∃S14:World->Prop,S14 lm/\(∀u,S14 u->S13 u)/\
 fnE aL λf75 first75 aO=>
 zQv prog f75=true/\Calls prog f75 (first75.toList ++ (([.string cF]:List Value) ++ aO.toList)).toArray lm λe rB=>
 ∃ah:Int,∃ai:Int,∃aj:ByteArray,∃aD:Bool,e=.returned (.tuple #[.agg #[.int .i64 ah,.int .i64 ai,.string aj],.bool aD])/\
 stA prog 73 (⟨aI,0,none⟩:Addr) #[.int .i64 ah,.int .i64 ai,.string aj] rB λgL=>
 zJ6 K p6 b9 aD aI gL)/\(
 ∃cF:ByteArray,∃ln:World,(convert 22 9 (.slice bB.a bB.len bB.cap)).run prog lk=.ok (.string cF) ln/\
 ∃S15:World->Prop,S15 ln/\(∀u,S15 u->S12 u)/\
 Calls prog 145 #[] ln λe m8=>
 ∃c9:Option Nat,e=.returned (.map c9)/\
 ∃S16:World->Prop,S16 m8/\(∀u,S16 u->S15 u)/\
 ∃bj:Int,∃bl:Int,∃bm:Int,∃bn:Value,∃aL:Value,(∀w',S16 w'->(Instr.lookup 176 (.map c9) (.int .i64 jb) false).run prog w'=.ok (.agg #[.int .u8 bj,.int .i64 bl,.int .i64 bm,bn,aL]) w')/\
 fnE aL λf75 first75 aO=>
 zQv prog f75=true/\Calls prog f75 (first75.toList ++ (([.string cF]:List Value) ++ aO.toList)).toArray m8 λe rC=>
 ∃ah:Int,∃ai:Int,∃aj:ByteArray,∃aD:Bool,e=.returned (.tuple #[.agg #[.int .i64 ah,.int .i64 ai,.string aj],.bool aD])/\
 stA prog 73 (⟨aI,0,none⟩:Addr) #[.int .i64 ah,.int .i64 ai,.string aj] rC λgM=>
 zJ6 K p6 b9 aD aI gM)))
theorem yWb {K:Bool->World->Prop} {p6:Option Addr} {b9:Bool} {bU:Nat} {bB:SV} {w9:World} {f:Fld} {part:List UInt8} (hb:w9.heap[bU]?=some (.cells #[.string f.name,.int .i64 f.kind,.int .i64 f.width,.bool f.null] 129)) (hf:zQn f=true) (hl:ByV w9 bB part)
  (tail:∀(wz:World) (aI:Nat),Pu w9 wz->wz.heap[aI]?=some (.cells #[.int .i64 (zZ6 f.kind part).kind,.int .i64 (zZ6 f.kind part).n,.string (zZ6 f.kind part).s] 73)->zJ6 K p6 b9 (okS f.kind part) aI wz):yJd K p6 b9 bU bB w9:=by
 obtain⟨R5,hk5,hbody,hcall0⟩:=xXi hf
 have hsz:(bs part).size<=140737488355328:=by rw[zQ3,←hl.len];exact hl.lim
 have hcall:∀w,Calls prog R5.rd #[.string (bs part)] w λe w'=>e=.returned (.tuple #[zWt (zZ6 f.kind part),.bool (okS f.kind part)])/\Pu w w':=λw=>by
  have:=hcall0 (bs part) hsz w
  rw[zQH]at this;exact this
 have kin:∀wz,Calls prog 145 #[] wz λe w'=>∃m:Nat,e=.returned (.map (some m))/\(∀u,Pu w' u->(Instr.lookup 176 (.map (some m)) (.int .i64 f.kind) false).run prog u=.ok (.agg #[.int .u8 R5.letter,.int .i64 R5.least,.int .i64 R5.most,.func (.func R5.wr) #[] #[],.func (.func R5.rd) #[] #[]]) u)/\Pu wz w':=λwz=>by
  refine(zW1 wz).mono ?_
  rintro e w' ⟨m,rfl,hm,_,hp⟩
  refine⟨m,rfl,λu hu=>?_,hp⟩
  have:=zKP (hm.pu hu) f.kind false
  rw[hk5]at this;exact this
 have conv:∀{wz},Pu w9 wz->(convert 22 9 (.slice bB.a bB.len bB.cap)).run prog wz=.ok (.string (bs part)) wz:=λ{wz} h=>yZq (hl.pu h)
 -- the call, then the variable
 have ca:∀{wz:World},Pu w9 wz->Calls prog R5.rd #[.string (bs part)] wz λe cR=>∃ah:Int,∃ai:Int,∃aj:ByteArray,∃aD:Bool,e=.returned (.tuple #[.agg #[.int .i64 ah,.int .i64 ai,.string aj],.bool aD])/\
   alE (.cells #[.int .i64 0,.int .i64 0,.string (⟨#[]⟩:ByteArray)] 73) cR λaI cP=>stA prog 73 (⟨aI,0,none⟩:Addr) #[.int .i64 ah,.int .i64 ai,.string aj] cP λbX=>zJ6 K p6 b9 aD aI bX:=λ{wz} hz=>by
  refine(hcall wz).mono ?_
  rintro e w1 ⟨rfl,ax⟩
  exact⟨_,_,_,_,rfl,zYt rfl s25.symm rfl λw2 ar mw aN=>tail w2 _ ((hz.trans ax).trans ar) aN⟩
 -- the call, behind the variable
 have ac:∀{wz:World} {aI:Nat},Pu w9 wz->wz.heap[aI]?=some (.cells #[.int .i64 0,.int .i64 0,.string (⟨#[]⟩:ByteArray)] 73)->w9.heap.size<=aI->Calls prog R5.rd #[.string (bs part)] wz λe cR=>∃ah:Int,∃ai:Int,∃aj:ByteArray,∃aD:Bool,e=.returned (.tuple #[.agg #[.int .i64 ah,.int .i64 ai,.string aj],.bool aD])/\
   stA prog 73 (⟨aI,0,none⟩:Addr) #[.int .i64 ah,.int .i64 ai,.string aj] cR λbX=>zJ6 K p6 b9 aD aI bX:=λ{wz aI} hz gl hr=>by
  refine(hcall wz).mono ?_
  rintro e w1 ⟨rfl,ax⟩
  exact⟨_,_,_,_,rfl,zQh (ax.blk gl) s25.symm rfl rfl λw2 aN fq mw=>tail w2 _ ((hz.trans ax).andNew fq λi hi=>by omega) aN⟩
 refine zQf λbT cG _=>⟨λu=>Pu bT u,Pu.refl _,f.kind,λu hu=>cl (hu.blk (cG.blk hb)) 1,(kin bT).mono ?_,?_,alB λw2 ar aN=>?_⟩
 ·rintro e w1 ⟨m,rfl,hm,ax⟩
  have q1:=cG.trans ax
  refine⟨some m,rfl,λu=>Pu w1 u,Pu.refl _,λu hu=>ax.trans hu,_,_,_,_,_,hm,⟨bs part,w1,conv q1,λu=>Pu w1 u,Pu.refl _,λu hu=>hu,⟨hbody,ca q1⟩,alB λw2 ar aN=>⟨λu=>Pu w2 u,Pu.refl _,λu hu=>ar.trans hu,hbody,ac (q1.trans ar) aN q1.size⟩⟩,alB λw2 ar aN=>?_⟩
  exact⟨λu=>Pu w2 u,Pu.refl _,λu hu=>ar.trans hu,bs part,w2,conv (q1.trans ar),λu=>Pu w2 u,Pu.refl _,λu hu=>hu,hbody,ac (q1.trans ar) aN q1.size⟩
 ·refine⟨bs part,bT,conv cG,λu=>Pu bT u,Pu.refl _,λu hu=>hu,(kin bT).mono ?_,alB λw2 ar aN=>?_⟩
  ·rintro e w1 ⟨m,rfl,hm,ax⟩
   have q1:=cG.trans ax
   exact⟨some m,rfl,λu=>Pu w1 u,Pu.refl _,λu hu=>ax.trans hu,_,_,_,_,_,hm,⟨hbody,ca q1⟩,alB λw2 ar aN=>⟨λu=>Pu w2 u,Pu.refl _,λu hu=>ar.trans hu,hbody,ac (q1.trans ar) aN q1.size⟩⟩
  ·refine⟨λu=>Pu w2 u,Pu.refl _,λu hu=>ar.trans hu,(kin w2).mono ?_⟩
   rintro e w1 ⟨m,rfl,hm,ax⟩
   exact⟨some m,rfl,λu=>Pu w1 u,Pu.refl _,λu hu=>ax.trans hu,_,_,_,_,_,hm,hbody,ac ((cG.trans ar).trans ax) (ax.blk aN) cG.size⟩
 ·refine⟨λu=>Pu w2 u,Pu.refl _,λu hu=>ar.trans hu,(kin w2).mono ?_,bs part,w2,conv (cG.trans ar),λu=>Pu w2 u,Pu.refl _,λu hu=>hu,(kin w2).mono ?_⟩
  ·rintro e w1 ⟨m,rfl,hm,ax⟩
   exact⟨some m,rfl,λu=>Pu w1 u,Pu.refl _,λu hu=>ax.trans hu,_,_,_,_,_,hm,bs part,w1,conv ((cG.trans ar).trans ax),λu=>Pu w1 u,Pu.refl _,λu hu=>hu,hbody,ac ((cG.trans ar).trans ax) (ax.blk aN) cG.size⟩
  ·rintro e w1 ⟨m,rfl,hm,ax⟩
   exact⟨some m,rfl,λu=>Pu w1 u,Pu.refl _,λu hu=>ax.trans hu,_,_,_,_,_,hm,hbody,ac ((cG.trans ar).trans ax) (ax.blk aN) cG.size⟩
theorem yXq {w:World} {l:List Fld} {s t:SV} {d:List UInt8} (h:zXF w s l) (hall:l.all zQn=true) (gk:l.length<=16) (ht:ByV w t d) (hd:(d.length:Int)=zX0 l) :
  Calls prog 163 #[.slice s.a s.len s.cap,.slice t.a t.len t.cap] w λe w'=>∃(g ok:Bool) (vs:List Val) (q:SV),e=.returned (.tuple #[.agg #[.bool g,.slice q.a q.len q.cap],.bool ok])/\zJy w w' q vs/\vs.length=l.length/\(∀v ∈ vs,zZZ v.kind/\zZZ v.n)/\Pu w w'/\
   ∀(r:Rec) (p:Int),zXs l p r.v->zJm zQp l r=d->g=r.gone/\vs=r.v/\ok=true:=by
 have hsl:=h.len
 have htl:=ht.len
 have hnl:=zVn l
 have hwide:=zZD (WOk.of hall)
 have hlw:(l.map (·.width)).sum<=254 * l.length:=hwide.2
 have rg:0<d.length:=by unfold zX0 at hd;omega
 have hdb:(d.length:Int)<=10000:=by unfold zX0 at hd;omega
 have hdw:1+zXd l<=d.length:=by unfold zX0 at hd;omega
 refine yJJ _ _ w _ (alB λw1 ax aE=>?_)
 obtain⟨b0,oJ⟩:=zQZ rg
 obtain⟨a0,zg,vk⟩:=(ht.pu ax).get _ _ oJ
 refine⟨a0,zg,by omega,by omega,_,vk,zYt rfl s46.symm rfl λw2 ar mw aN=>(zK8 (h.pu (ax.trans ar))).mono ?_⟩
 rintro e w3 ⟨rfl,aA⟩
 refine⟨_,rfl,?_⟩
 have l1:w.heap.size<w1.heap.size:=zQz aE
 have l2:w1.heap.size<w2.heap.size:=zQz aN
 have z3:=aA.size
 have sL:zYn w w2 w.heap.size w1.heap.size (((b0.toNat:Nat):Int) == 42) [] w3:=⟨⟨⟨none,0,0⟩,aA.blk aN,zJy.nil w2 w3⟩,(ar.trans aA).blk aE,z3,(ax.trans ar).trans aA,by omega,l2,by omega,Nat.le_refl _,by omega⟩
 rw[zQa (by omega) (by omega)]
 refine zQ0 l.length (λk u w'=>u.2.2.2=(k:Int)/\u.1=(zYM l k:Nat)/\u.2.1=(zX6 l k:Nat)/\∃vs:List Val,vs.length=k/\(∀v ∈ vs,zZZ v.kind/\zZZ v.n)/\zYn w w2 w.heap.size w1.heap.size (((b0.toNat:Nat):Int) == 42) vs w'/\
   ∀(r:Rec) (p:Int),zXs l p r.v->zJm zQp l r=d->vs=r.v.take k/\u.2.2.1=true) ⟨rfl,by show(1:Int)+((zXd l:Nat):Int)=_;unfold zYM;simp,rfl,[],rfl,by simp,sL,λr p _ _=>⟨by simp,rfl⟩⟩ ?_
 rintro k J ⟨u1,u2,u3,u4⟩ w4 hk ⟨e4,e1,e2,vs,hvl,ow,st,hcond⟩ hJ
 obtain rfl:u4=(k:Int):=e4
 obtain rfl:u1=(zYM l k:Nat):=e1
 obtain rfl:u2=(zX6 l k:Nat):=e2
 have hcond:∀(r:Rec) (p:Int),zXs l p r.v->zJm zQp l r=d->vs=r.v.take k/\u3=true:=hcond
 have hnk:=yJj l k
 have hfl:=List.length_filter_le (·.null) l
 dsimp only
 refine Br.of (λq=>?_) (λq=>?_)
 ·have aG:k<l.length:=by have:=zQk q;omega
  obtain⟨f,hf⟩:=zQZ aG
  have hfB:=List.all_eq_true.1 hall f (List.mem_of_getElem? hf)
  have hwf:=zXh hfB
  have hoff:=xWr hall hf
  obtain⟨a,ha,hi,_,_,_,c0,c1,c2,c3⟩:=zJw (h.pu st.pu) hf
  refine⟨a,ha,by omega,by omega,_,c0,_,c1,_,c2,_,c3,zYt rfl s23.symm rfl λw5 aV kG bi=>⟨_,cl bi 2,_,cl bi 2,?_⟩⟩
  have rV:=st.on aV
  have ht5:=ht.pu rV.pu
  obtain⟨bB,e40,h40⟩:=ht5.part3 (lo:=zYM l k) (hi:=zYM l k+f.width.toNat) (by omega) (by omega)
  rw[show zYM l k+f.width.toNat - zYM l k=f.width.toNat by omega]at h40
  have ew:IntKind.i64.wrap (((zYM l k:Nat):Int)+f.width)=((zYM l k+f.width.toNat:Nat):Int):=by rw[zQa (by omega) (by omega)];omega
  rw[ew,zQa (n:=((zX6 l k:Nat):Int)+1) (by omega) (by omega)]
  refine⟨bB,w5,e40,_,cl bi 2,_,cl bi 3,?_⟩
  rw[ew]
  have hpart:∀(r:Rec) (p:Int),zXs l p r.v->zJm zQp l r=d->∀v,r.v[k]?=some v->(d.drop (zYM l k)).take f.width.toNat=zQp f v:=λr p hR hrow v hv=>xQ8 hall hR hrow hf hv
  generalize hpt:(d.drop (zYM l k)).take f.width.toNat=part at *
  -- behind the value
  have next:∀{nk:Int} {v:Val} {b:Bool} {w':World},nk=(zX6 l (k+1):Nat)->zZZ v.kind/\zZZ v.n->zYn w w2 w.heap.size w1.heap.size (((b0.toNat:Nat):Int) == 42) (vs ++ [v]) w'->
    (∀(r:Rec) (p:Int),zXs l p r.v->zJm zQp l r=d->u3=true->∀v',r.v[k]?=some v'->v=v'/\b=true)->J (((zYM l k+f.width.toNat:Nat):Int),nk,b,IntKind.i64.wrap ((k:Int)+1)) w':=λ{nk v b w'} q1 q2 q3 q4=>by
   rw[zQa (by omega) (by omega)]
   refine hJ _ _ aG ⟨by dsimp only;omega,by dsimp only;rw[yV5 hall hf],q1,vs ++ [v],by simp[hvl],λx hx=>?_,q3,λr p hR hrow=>?_⟩
   ·rcases List.mem_append.1 hx with hx|hx
    ·exact ow x hx
    ·simp at hx;subst hx;exact q2
   ·obtain⟨h1,h2⟩:=hcond r p hR hrow
    obtain⟨v',hv'⟩:=zQZ (l:=r.v) (k:=k) (by have:=hR.1;omega)
    obtain⟨h3,h4⟩:=q4 r p hR hrow h2 v' hv'
    exact⟨by rw[zQ8 hv',←h1,h3],h4⟩
  -- a value that is there
  have reg:∀{nk:Int},nk=(zX6 l (k+1):Nat)->(∀(r:Rec) (p:Int),zXs l p r.v->zJm zQp l r=d->∀v',r.v[k]?=some v'->v'.kind ≠ 0)->
    yJd (λb w'=>J (((zYM l k+f.width.toNat:Nat):Int),nk,b,IntKind.i64.wrap ((k:Int)+1)) w') (some ⟨w1.heap.size,0,none⟩) u3 w4.heap.size bB w5:=λ{nk} hnk hkind=>by
   refine yWb bi hfB h40 λwz aI hz gl=>?_
   have stz:=rV.on hz
   refine Br.of (λq1=>yVa stz (v:=zZ6 f.kind part) gl (by omega) λw' st'=>next hnk (yJ4 _ _) st' λr p hR hrow hu v' hv'=>?_) (λq1=>yVa stz (v:=zZ6 f.kind part) gl (by omega) λw' st'=>next hnk (yJ4 _ _) st' λr p hR hrow hu v' hv'=>?_)
   ·have:=yJC (hR.2 k f v' hf hv') (hkind r p hR hrow v' hv')
    rw[←hpart r p hR hrow v' hv']at this;exact this
   ·rw[q1]at hu;cases hu
  refine Br.of (λq1=>⟨rfl,by decide,?_⟩) (λq1=>reg (by rw[zW5 hf,if_neg (by rw[q1];simp)]) λr p hR hrow v' hv' h0=>?_)
  ·have hm1:zX6 l k+1<=(l.filter (·.null)).length:=by
    have h1:=zW5 hf
    rw[if_pos q1]at h1
    have h2:=yJj l (k+1)
    omega
   have hq:zX6 l k / 8<zXd l:=by unfold zXd;omega
   have e1:((zX6 l k:Nat):Int).tdiv 8=((zX6 l k / 8:Nat):Int):=zJV _ 8
   have e2:((zX6 l k:Nat):Int).tmod 8=((zX6 l k % 8:Nat):Int):=zKX _ 8
   rw[e1,e2,zQa (n:=((zX6 l k / 8:Nat):Int)) (by omega) (by omega),zQa (n:=1+((zX6 l k / 8:Nat):Int)) (by omega) (by omega)]
   obtain⟨bf,hbf⟩:=zQZ (l:=d) (k:=1+zX6 l k / 8) (by omega)
   obtain⟨af,haf,hcf⟩:=ht5.get _ _ hbf
   refine⟨af,haf,by omega,by omega,_,by rw[show(1+((zX6 l k / 8:Nat):Int)).toNat=1+zX6 l k / 8 by omega];exact hcf,rfl,by decide,by omega,?_⟩
   rw[zZc,bit_p _ bf.toNat_lt _ (Nat.mod_lt _ (by decide))]
   have enk:((zX6 l k:Nat):Int)+1=((zX6 l (k+1):Nat):Int):=by rw[zW5 hf,if_pos q1];omega
   refine Br.of (λq2=>?_) (λq2=>reg enk λr p hR hrow v' hv' h0=>?_)
   ·obtain⟨q,h6,rR⟩:=rV.ex
    refine⟨q,cl h6 1,xJV (v:=noV) rV h6 rR rfl (by omega) λw' st'=>next enk ⟨⟨by decide,by decide⟩,⟨by decide,by decide⟩⟩ st' λr p hR hrow hu v' hv'=>⟨?_,hu⟩⟩
    have hbit:=yJu hR hrow hf hv' q1 hbf
    rw[q2]at hbit
    have h0:v'.kind=0:=by simpa using hbit.symm
    have hRv:=hR.2 k f v' hf hv'
    cases hRv with
    | nil hv hn=>exact hv.symm
    | truth hk hw hv hn=>rw[hv]at h0;exact absurd h0 (by simp)
    | num hk hw hv hn hl=>rw[hv]at h0;exact absurd h0 (by simp)
    | date hk hw hv hn=>rw[hv]at h0;exact absurd h0 (by simp)
    | text hk hw hv hl hb ht=>rw[hv]at h0;exact absurd h0 (by simp)
    | memo hk hw hv hn=>rw[hv]at h0;exact absurd h0 (by simp)
   ·have hbit:=yJu hR hrow hf hv' q1 hbf
    rw[q2,decide_eq_true h0]at hbit;cases hbit
  ·have hRv:=hR.2 k f v' hf hv'
   cases hRv with
   | nil hv hn=>rw[q1]at hn;cases hn
   | truth hk hw hv hn=>rw[hv]at h0;exact absurd h0 (by simp)
   | num hk hw hv hn hl=>rw[hv]at h0;exact absurd h0 (by simp)
   | date hk hw hv hn=>rw[hv]at h0;exact absurd h0 (by simp)
   | text hk hw hv hl hb ht=>rw[hv]at h0;exact absurd h0 (by simp)
   | memo hk hw hv hn=>rw[hv]at h0;exact absurd h0 (by simp)
 ·have aG:k=l.length:=by have:=zQd q;omega
  subst aG
  obtain⟨q,h6,hq⟩:=st.ex
  have hne:=st.ne
  refine⟨_,cl h6 0,q,cl h6 1,zQh st.b4 s46.symm rfl rfl λw5 bi cr kG=>⟨_,cl bi 0,q,cl bi 1,_,u3,vs,q,rfl,?_,hvl,ow,st.pu.andNew cr λi hi=>by omega,λr p hR hrow=>?_⟩⟩
  ·exact(hq.fr cr λi hi=>by have:=hq.2 i hi;omega).low (by omega)
  ·obtain⟨h1,h2⟩:=hcond r p hR hrow
   refine⟨?_,by rw[h1,List.take_of_length_le (by have:=hR.1;omega)],h2⟩
   rw[xXk hrow oJ]
   cases r.gone <;> decide
end Go.Proofs.YtaeecpjhfmcliaaGreatDoor
/- Table: the reference's reading of a row's bytes. No condition. -/
set_option maxHeartbeats 2000000
namespace Go.Proofs.YtaeecpjhfmcliaaGreatDoor
open Go.Sh Go.RowKit Tryz
def w84(K:Int->Int->World->Prop)(l0:SV)(n8 n7:Int)(cP:World):Prop:=
 ∃a21:Addr,l0.a=some a21/\0<=n8/\n8<((l0.len:Nat):Int)/\
 ∃sB:Int,cP.cell? ((a21.add (n8.toNat * 4)).add 2)=some (.int .i64 sB)/\K sB n7 cP
end Go.Proofs.YtaeecpjhfmcliaaGreatDoor
