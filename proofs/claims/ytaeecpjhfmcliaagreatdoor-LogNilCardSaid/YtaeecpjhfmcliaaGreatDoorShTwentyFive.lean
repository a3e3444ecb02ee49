import Derived.Test.YtaeecpjhfmcliaaGreatDoorShSeventeen
import Derived.Test.YtaeecpjhfmcliaaGreatDoorShEleven
import Derived.Lib.TrimByte
/- Bytes, lists met from a place on, days and dates, in plain words. For every program. -/
set_option maxRecDepth 100000
set_option linter.unusedVariables false
set_option linter.unusedSimpArgs false
namespace Go.Sh
open Go.RowKit
theorem zXG {α:Type} {l:List α} {k:Nat} {x:α} (h:l[k]?=some x):l.drop k=x :: l.drop (k+1):=by
 obtain⟨h1,h2⟩:=List.getElem?_eq_some_iff.1 h
 rw[List.drop_eq_getElem_cons h1,h2]
theorem zQK {α:Type} {l:List α} {k:Nat} {x:α} (h:l[k]?=some x):l.take (k+1)=l.take k ++ [x]:=by
 rw[List.take_add_one,h];rfl
theorem zXf{α:Type}{l:List α}{k:Nat}(h:k<l.length):∃x,l[k]?=some x:=⟨_,List.getElem?_eq_getElem h⟩
theorem xX5(a:Addr):a.add 0=a:=by simp[Addr.add]
theorem zXI(s t:ByteArray):(s.toList == t.toList)=decide (s=t):=by rw[←beq_toListBytes,zXS]
theorem zQM{s t:ByteArray}(h:s.data.toList=t.data.toList):s=t:=by
 obtain⟨⟨a⟩⟩:=s;obtain⟨⟨b⟩⟩:=t;simp at h;rw[h]
theorem zQv(s:ByteArray):s.data.toList.length=s.size:=by simp
abbrev bs(l:List UInt8):ByteArray:=⟨l.toArray⟩
theorem zQF(l:List UInt8):(bs l).data.toList=l:=by simp[bs]
theorem yXS(s:ByteArray):bs s.data.toList=s:=by obtain⟨⟨a⟩⟩:=s;rfl
theorem zQ2(l:List UInt8):(bs l).size=l.length:=by simp[bs,ByteArray.size]
def zZ2(n:Int):Prop:=-9223372036854775808<=n/\n<=9223372036854775807
instance:Enc Bool where
 sz:=1
 rd _ vs b:=vs=[.bool b]
 len h:=by rw[h];rfl
 pu _ h:=h
def yZW(b:UInt8):Bool:=decide (65<=b.toNat) && decide (b.toNat<=90)
def zXZ(b:UInt8):Bool:=decide (48<=b.toNat) && decide (b.toNat<=57)
def zWl(s:ByteArray):Bool:=decide (1<=s.size) && decide (s.size<=10) && s.data.toList.all (λb=>yZW b || zXZ b || decide (b.toNat=95)) && (s.data.toList.take 1).all yZW
def zZq(n:Nat):List UInt8:=if h:n<10 then [UInt8.ofNat (48+n)]else zZq (n / 10) ++ [UInt8.ofNat (48+n % 10)]
 termination_by n
 decreasing_by omega
def zZS(n:Int):List UInt8:=if n<0 then 45 :: zZq n.natAbs else zZq n.natAbs
def zZ4(l:List UInt8):List UInt8:=(l.reverse.dropWhile (· == 32)).reverse
theorem zXJ(s:ByteArray):(s.toList == (⟨#[]⟩:ByteArray).toList)=decide (s.size=0):=by
 rw[←beq_toListBytes,zXS]
 by_cases h:s.size=0
 ·have:s=⟨#[]⟩:=by
   obtain⟨⟨l⟩⟩:=s
   cases l with
   | nil=>rfl
   | cons a l=>simp[ByteArray.size]at h
  simp[this]
  rfl
 ·have:s ≠ ⟨#[]⟩:=λe=>h (by rw[e];rfl)
  simp[this,h]
theorem alB {w:World} {c:Array Value} {e:TypeId} {K:Nat->World->Prop} (h:∀w1,Pu w w1->w1.heap[w.heap.size]?=some (.cells c e)->K w.heap.size w1):alE (.cells c e) w K:=
 h _ (Pu.alloc w _) (zX4 w _)
theorem cl {w:World} {r:Nat} {c:Array Value} {e:TypeId} {f:Nat × Nat} (h:w.heap[r]?=some (.cells c e f)) (o:Nat):w.cell? ((⟨r,0,none⟩:Addr).add o)=c[o]?:=by rw[zQn,zQ8 h,Nat.zero_add]
theorem cl0 {w:World} {r:Nat} {c:Array Value} {e:TypeId} {f:Nat × Nat} (h:w.heap[r]?=some (.cells c e f)):w.cell? (⟨r,0,none⟩:Addr)=c[0]?:=zQ8 h 0
theorem zXr {a b:Int} (h:(a == b)=true):a=b:=by simpa using h
theorem zQ9 {a b:Int} (h:(a == b)=false):a ≠ b:=by simpa using h
theorem zQG {a b:Int} (h:(a != b)=true):a ≠ b:=by simpa using h
theorem zQ4 {a b:Int} (h:(a != b)=false):a=b:=by simpa using h
theorem zX2{α:Type}(p:α->Bool):∀l:List α,l.dropWhile p=[] ↔ l.all p=true
 | []=>by simp
 | a :: l=>by
  by_cases h:p a=true
  ·rw[List.dropWhile_cons,if_pos h,zX2 p l];simp[h]
  ·simp[List.dropWhile,h]
theorem zX8{α:Type}(p:α->Bool):∀l:List α,(l.dropWhile p).all p=true ↔ l.all p=true
 | []=>by simp
 | a :: l=>by
  by_cases h:p a=true
  ·simp only[List.dropWhile_cons,h,if_pos,List.all_cons,Bool.true_and]
   exact zX8 p l
  ·simp[List.dropWhile,h]
theorem zYg{s:ByteArray}{k:Nat}(h:k<s.size):∃b,s[k]?=some b/\s.data.toList[k]?=some b:=by
 refine⟨s[k],by simp[h],?_⟩
 have:k<s.data.toList.length:=by simpa using h
 rw[List.getElem?_eq_getElem this]
 rfl
theorem zW3 {s:ByteArray} {k:Nat} {b:UInt8} (h:s.data.toList[k]?=some b):s[k]?=some b:=by
 have hk:k<s.size:=by have:=(List.getElem?_eq_some_iff.1 h).1;simpa using this
 obtain⟨c,h1,h2⟩:=zYg hk
 rw[h2]at h
 rw[h1];exact h
theorem zYb {α:Type} (p:α->Bool) {l:List α} {k:Nat} {x:α} (h:l[k]?=some x):(l.take (k+1)).all p=((l.take k).all p && p x):=by
 rw[zQK h,List.all_append];simp
theorem zZj{p q:Prop}[Decidable p][Decidable q](h:p ↔ q):decide p=decide q:=by simp[h]
theorem zK2(a b:List UInt8):bs a ++ bs b=bs (a ++ b):=zQM (by simp[bs])
theorem zZB(a b:ByteArray):a ++ b=bs (a.data.toList ++ b.data.toList):=zQM (by simp[bs])
theorem zQ3(s:ByteArray)(i j:Nat):(s.extract i j).data.toList=(s.data.toList.take j).drop i:=by
 rw[ByteArray.data_extract,Array.toList_extract,List.extract_eq_take_drop,List.drop_take]
theorem zVV:∀k:Nat,k<10->(⟨#[48,49,50,51,52,53,54,55,56,57]⟩:ByteArray).extract k (k+1)=bs [UInt8.ofNat (48+k)]:=by
 intro k hk
 apply zQM
 rw[zQ3,zQF]
 match k,hk with
 | 0,_=>rfl
 | 1,_=>rfl
 | 2,_=>rfl
 | 3,_=>rfl
 | 4,_=>rfl
 | 5,_=>rfl
 | 6,_=>rfl
 | 7,_=>rfl
 | 8,_=>rfl
 | 9,_=>rfl
theorem zZi{n:Nat}(h:n<10):zZq n=[UInt8.ofNat (48+n)]:=by rw[zZq,dif_pos h]
theorem zZ3{n:Nat}(h:¬n<10):zZq n=zZq (n / 10) ++ [UInt8.ofNat (48+n % 10)]:=by rw[zZq,dif_neg h]
theorem zYA(n:Nat):(zZq n).length<=n+1:=by
 induction n using Nat.strongRecOn with
 | _ n ih=>
  by_cases h:n<10
  ·rw[zZi h];simp
  ·rw[zZ3 h]
   have:=ih (n / 10) (by omega)
   simp only[List.length_append,List.length_singleton];omega
theorem zYd(n:Nat):1<=(zZq n).length:=by
 by_cases h:n<10
 ·rw[zZi h];simp
 ·rw[zZ3 h];simp
theorem zJ9(n:Nat):∀b ∈ zZq n,48<=b.toNat/\b.toNat<=57:=by
 induction n using Nat.strongRecOn with
 | _ n ih=>
  have one:∀k,k<10->48<=(UInt8.ofNat (48+k)).toNat/\(UInt8.ofNat (48+k)).toNat<=57:=λk hk=>by simp;omega
  by_cases h:n<10
  ·rw[zZi h];intro b hb;simp only[List.mem_singleton]at hb;subst hb;exact one n h
  ·rw[zZ3 h];intro b hb
   rcases List.mem_append.1 hb with hb|hb
   ·exact ih (n / 10) (by omega) b hb
   ·simp only[List.mem_singleton]at hb;subst hb;exact one _ (by omega)
theorem zKx(n:Nat):zZS (n:Int)=zZq n:=by unfold zZS;rw[if_neg (by omega)];rfl
theorem zYt{n:Int}(h:n<0):zZS n=45 :: zZq n.natAbs:=by unfold zZS;rw[if_pos h]
theorem yQL(l:List UInt8)(b:UInt8):zZ4 (l ++ [b])=if b=32 then zZ4 l else l ++ [b]:=by
 unfold zZ4
 rw[List.reverse_append,List.reverse_singleton,List.singleton_append,List.dropWhile_cons]
 by_cases h:b=32
 ·simp[h]
 ·simp[h]
def zZZ(y:Nat):Bool:=(decide (y % 4=0) && decide (y % 100 ≠ 0)) || decide (y % 400=0)
def zZ8(y m:Nat):Nat:=if m=2 then(if zZZ y then 29 else 28)else if m=4∨m=6∨m=9∨m=11 then 30 else 31
def zQr(y:Nat):Nat->Nat
 | 0=>0
 | m+1=>zQr y m+zZ8 y (m+1)
def zQq(y:Nat):Nat:=365 * (y - 1)+(y - 1) / 4 - (y - 1) / 100+(y - 1) / 400
def zQB(y m d:Nat):Prop:=1<=y/\y<=9999/\1<=m/\m<=12/\1<=d/\d<=zZ8 y m
instance (y m d:Nat):Decidable (zQB y m d):=by unfold zQB;exact inferInstance
def zXP(y m d:Nat):Nat:=zQq y+zQr y (m - 1)+d
theorem zXw{y:Nat}(h:1<=y):zQq (y+1)=zQq y+(if zZZ y then 366 else 365):=by
 obtain⟨k,rfl⟩:∃k,y=k+1:=⟨y - 1,by omega⟩
 unfold zQq zZZ
 simp only[Nat.add_sub_cancel]
 by_cases h1:(k+1) % 4=0 <;> by_cases h2:(k+1) % 100=0 <;> by_cases h3:(k+1) % 400=0 <;> simp[h1,h2,h3] <;> omega
theorem zZm(y:Nat):zQr y 12=if zZZ y then 366 else 365:=by
 simp only[zQr,zZ8]
 cases zZZ y <;> rfl
theorem zXv(y:Nat):∀{a b:Nat},a<=b->zQr y a<=zQr y b:=by
 intro a b h
 induction h with
 | refl=>exact Nat.le_refl _
 | step _ ih=>exact Nat.le_trans ih (by simp[zQr])
theorem zXx{a b:Nat}(h0:1<=a)(h:a<=b):zQq a<=zQq b:=by
 induction h with
 | refl=>exact Nat.le_refl _
 | step h ih=>exact Nat.le_trans ih (by rw[zXw (Nat.le_trans h0 h)];omega)
theorem zQB.month{y m d:Nat}(h:zQB y m d):zQr y (m - 1)+d<=zQr y m:=by
 obtain⟨_,_,h3,_,_,h6⟩:=h
 obtain⟨k,rfl⟩:∃k,m=k+1:=⟨m - 1,by omega⟩
 simp only[zQr,Nat.add_sub_cancel]
 omega
theorem zQB.year{y m d:Nat}(h:zQB y m d):zQq y<zXP y m d/\zXP y m d<=zQq (y+1):=by
 have h1:=h.month
 have h2:=zXv y h.2.2.2.1
 rw[zZm,]at h2
 rw[zXw h.1]
 have:=h.2.2.2.2.1
 unfold zXP
 omega
theorem yZI{y m d y' m' d':Nat}(h:zQB y m d)(h':zQB y' m' d')(e:zXP y m d=zXP y' m' d'):y=y'/\m=m'/\d=d':=by
 have a:=h.year
 have a':=h'.year
 have ey:y=y':=by
  rcases Nat.lt_trichotomy y y' with hlt|rfl|hlt
  ·have:=zXx (a:=y+1) (by omega) (show y+1<=y' by omega);omega
  ·rfl
  ·have:=zXx (a:=y'+1) (by omega) (show y'+1<=y by omega);omega
 subst ey
 have b:=h.month
 have b':=h'.month
 unfold zXP at e
 have c:=h.2.2.2.2.1
 have c':=h'.2.2.2.2.1
 have c3:=h.2.2.1
 have yT:=h'.2.2.1
 have em:m=m':=by
  rcases Nat.lt_trichotomy m m' with hlt|rfl|hlt
  ·have:=zXv y (show m<=m' - 1 by omega);omega
  ·rfl
  ·have:=zXv y (show m'<=m - 1 by omega);omega
 subst em
 exact⟨rfl,rfl,by omega⟩
theorem zJA:zQq 10000=3652059:=by decide
theorem zVl{y:Nat}(h:1<=y):365 * (y - 1)<=zQq y/\zQq y<=366 * (y - 1):=by
 unfold zQq;omega
theorem zYZ(y m:Nat):zQr y m<=31 * m:=by
 induction m with
 | zero=>simp[zQr]
 | succ m ih=>simp only[zQr,zZ8];split <;> (try split) <;> omega
theorem yVs(a b:Int):(a == b)=decide (a=b):=by simp[BEq.beq]
theorem zKu(n k:Nat):((n:Int)).tmod (k:Int)=((n % k:Nat):Int):=by rw[Int.tmod_eq_emod_of_nonneg (by omega)];norm_cast
theorem zJ6(n k:Nat):((n:Int)).tdiv (k:Int)=((n / k:Nat):Int):=by rw[Int.tdiv_eq_ediv_of_nonneg (by omega)];norm_cast
def zXT:Nat->List UInt8->Nat
 | a,[]=>a
 | a,b :: l=>if zXZ b then zXT (min (10 * a+(b.toNat - 48)) 1000000000000000) l else a
def yXm:List UInt8->Int
 | []=>0
 | b :: r=>if b.toNat=45 then -(zXT 0 r:Int)else if b.toNat=43 then zXT 0 r else zXT 0 (b :: r)
theorem zXM(b:UInt8)(r:List UInt8):yXm (b :: r)=if b.toNat=45 then -(zXT 0 r:Int)else if b.toNat=43 then zXT 0 r else zXT 0 (b :: r):=rfl
def zVS(l:List UInt8):Int:=yXm (l.dropWhile (· == 32))
theorem zWN:∀{l:List UInt8} {a:Nat},a<=1000000000000000->zXT a l<=1000000000000000
 | [],a,h=>h
 | b :: l,a,h=>by
  unfold zXT
  split
  ·exact zWN (Nat.min_le_right _ _)
  ·exact h
theorem yWr(l:List UInt8):-1000000000000000<=zVS l/\zVS l<=1000000000000000:=by
 have h:=λr=>zWN (l:=r) (a:=0) (by omega)
 unfold zVS yXm
 split
 ·omega
 ·rename_i b r _
  have h1:=h r
  have h2:=h (b :: r)
  split
  ·omega
  ·split <;> omega
theorem yX9{b:UInt8}(h:zXZ b=true):48<=b.toNat/\b.toNat<=57:=by
 unfold zXZ at h;simpa using h
theorem zYE {b:UInt8} (h:¬(48<=b.toNat/\b.toNat<=57)):zXZ b=false:=by
 unfold zXZ;simp;omega
theorem yZd{b:UInt8}(h:48<=b.toNat/\b.toNat<=57):IntKind.i64.wrap (IntKind.u8.wrap (((b.toNat:Nat):Int) - 48))=((b.toNat - 48:Nat):Int):=by
 have e:IntKind.u8.wrap (((b.toNat:Nat):Int) - 48)=((b.toNat - 48:Nat):Int):=by rw[IntKind.wrap_u8];omega
 rw[e,zQa (by omega) (by omega)]
theorem zYD(b:UInt8)(r:List UInt8):(bs (b :: r)).extract ((1:Int).toNat) (bs (b :: r)).size=bs r:=by
 apply zQM
 rw[zQ3,zQF,zQF,zQ2]
 show(List.take (b :: r).length (b :: r)).drop 1=r
 rw[List.take_length];rfl
def yXe(y m d:Nat):Int × Bool:=(((if zQB y m d then zXP y m d else 0:Nat):Int),decide (zQB y m d))
def zXd(l:List UInt8):Int × Bool:=if l=List.replicate 8 32 then(0,true)else if l.length ≠ 8 then(0,false)else if l.all zXZ then yXe (zXT 0 (l.take 4)) (zXT 0 ((l.drop 4).take 2)) (zXT 0 (l.drop 6))else(0,false)
theorem zZl{l:List UInt8}(h:l.all zXZ=true):zVS l=(zXT 0 l:Nat):=by
 cases l with
 | nil=>rfl
 | cons b r=>
  have hb:=yX9 (List.all_eq_true.1 h b (by simp))
  have e:(b == 32)=false:=by
   simp only[beq_eq_false_iff_ne,ne_eq]
   intro h;subst h;revert hb;decide
  unfold zVS
  rw[List.dropWhile_cons,e]
  simp only[Bool.false_eq_true,if_false]
  rw[zXM,if_neg (by omega),if_neg (by omega)]
def yVE:List UInt8:=[48,49,50,51,52,53,54,55,56,57]
theorem yVl(b:UInt8):yVE.contains b=zXZ b:=by
 have h:∀n:Nat,n<256->yVE.contains (UInt8.ofNat n)=zXZ (UInt8.ofNat n):=by decide +kernel
 have:=h b.toNat b.toNat_lt
 rwa [UInt8.ofNat_toNat]at this
theorem yWZ(s:ByteArray):(s.toList == (⟨#[32,32,32,32,32,32,32,32]⟩:ByteArray).toList)=decide (s.data.toList=List.replicate 8 32):=by
 rw[zXI]
 exact zZj ⟨λh=>by rw[h];rfl,λh=>zQM (by rw[h];rfl)⟩
theorem zJM{l:List UInt8}(h:l.all zXZ=true)(n:Nat):(l.take n).all zXZ=true:=List.all_eq_true.2 λb hb=>List.all_eq_true.1 h b (List.mem_of_mem_take hb)
theorem zJS{l:List UInt8}(h:l.all zXZ=true)(n:Nat):(l.drop n).all zXZ=true:=List.all_eq_true.2 λb hb=>List.all_eq_true.1 h b (List.mem_of_mem_drop hb)
theorem ext3{s:ByteArray}(h8:s.size=8):(s.extract 0 ((4:Int).toNat)).data.toList=s.data.toList.take 4/\(s.extract ((4:Int).toNat) ((6:Int).toNat)).data.toList=(s.data.toList.drop 4).take 2/\(s.extract ((6:Int).toNat) s.size).data.toList=s.data.toList.drop 6:=by
 refine⟨by rw[zQ3];rfl,?_,?_⟩
 ·rw[zQ3]
  show(List.take 6 s.data.toList).drop 4=_
  rw[List.drop_take]
 ·rw[zQ3,h8,List.take_of_length_le (by rw[zQv];omega)];rfl
end Go.Sh
