import Derived.Test.YtaeecpjhfmcliaaGreatDoorShSeventeen
import Derived.Test.YtaeecpjhfmcliaaGreatDoorShEleven
import Derived.Lib.TrimByte
/- Bytes, lists met from a place on, days and dates, in plain words. For every program. -/
set_option maxRecDepth 100000
set_option linter.unusedVariables false
set_option linter.unusedSimpArgs false
namespace Go.Sh
open Go.RowKit
theorem zXU {α:Type} {l:List α} {k:Nat} {x:α} (h:l[k]?=some x):l.drop k=x :: l.drop (k+1):=by
 obtain⟨h1,h2⟩:=List.getElem?_eq_some_iff.1 h
 rw[List.drop_eq_getElem_cons h1,h2]
theorem zQD {α:Type} {l:List α} {k:Nat} {x:α} (h:l[k]?=some x):l.take (k+1)=l.take k ++ [x]:=by
 rw[List.take_add_one,h];rfl
theorem zQM{α:Type}{l:List α}{k:Nat}(h:k<l.length):∃x,l[k]?=some x:=⟨_,List.getElem?_eq_getElem h⟩
theorem yYf(a:Addr):a.add 0=a:=by simp[Addr.add]
theorem zX8(s t:ByteArray):(s.toList == t.toList)=decide (s=t):=by rw[←beq_toListBytes,zZB]
theorem zQU{s t:ByteArray}(h:s.data.toList=t.data.toList):s=t:=by
 obtain⟨⟨a⟩⟩:=s;obtain⟨⟨b⟩⟩:=t;simp at h;rw[h]
theorem zQ3(s:ByteArray):s.data.toList.length=s.size:=by simp
abbrev bs(l:List UInt8):ByteArray:=⟨l.toArray⟩
theorem zQQ(l:List UInt8):(bs l).data.toList=l:=by simp[bs]
theorem yJt(s:ByteArray):bs s.data.toList=s:=by obtain⟨⟨a⟩⟩:=s;rfl
theorem zQ9(l:List UInt8):(bs l).size=l.length:=by simp[bs,ByteArray.size]
def zZR(n:Int):Prop:=-9223372036854775808<=n/\n<=9223372036854775807
instance:Enc Bool where
 sz:=1
 rd _ vs b:=vs=[.bool b]
 len h:=by rw[h];rfl
 pu _ h:=h
def zVd(b:UInt8):Bool:=decide (65<=b.toNat) && decide (b.toNat<=90)
def zZm(b:UInt8):Bool:=decide (48<=b.toNat) && decide (b.toNat<=57)
def zZ3(s:ByteArray):Bool:=decide (1<=s.size) && decide (s.size<=10) && s.data.toList.all (λb=>zVd b || zZm b || decide (b.toNat=95)) && (s.data.toList.take 1).all zVd
def zZQ(n:Nat):List UInt8:=if h:n<10 then [UInt8.ofNat (48+n)]else zZQ (n / 10) ++ [UInt8.ofNat (48+n % 10)]
 termination_by n
 decreasing_by omega
def zJq(n:Int):List UInt8:=if n<0 then 45 :: zZQ n.natAbs else zZQ n.natAbs
def zZ4(l:List UInt8):List UInt8:=(l.reverse.dropWhile (· == 32)).reverse
theorem zZf(s:ByteArray):(s.toList == (⟨#[]⟩:ByteArray).toList)=decide (s.size=0):=by
 rw[←beq_toListBytes,zZB]
 by_cases h:s.size=0
 ·have:s=⟨#[]⟩:=by
   obtain⟨⟨l⟩⟩:=s
   cases l with
   | nil=>rfl
   | cons a l=>simp[ByteArray.size]at h
  simp[this]
  rfl
 ·have:s ≠ ⟨#[]⟩:=λe=>h (by rw[e];rfl)
  simp[this,h]
theorem alB {w:World} {c:Array Value} {e:TypeId} {K:Nat->World->Prop} (h:∀w1,Pu w w1->w1.heap[w.heap.size]?=some (.cells c e)->K w.heap.size w1):alE (.cells c e) w K:=
 h _ (Pu.alloc w _) (zZt w _)
theorem cl {w:World} {r:Nat} {c:Array Value} {e:TypeId} {f:Nat × Nat} (h:w.heap[r]?=some (.cells c e f)) (o:Nat):w.cell? ((⟨r,0,none⟩:Addr).add o)=c[o]?:=by rw[zQr,zQI h,Nat.zero_add]
theorem cl0 {w:World} {r:Nat} {c:Array Value} {e:TypeId} {f:Nat × Nat} (h:w.heap[r]?=some (.cells c e f)):w.cell? (⟨r,0,none⟩:Addr)=c[0]?:=zQI h 0
theorem zQG {a b:Int} (h:(a == b)=true):a=b:=by simpa using h
theorem zQm {a b:Int} (h:(a == b)=false):a ≠ b:=by simpa using h
theorem zQ2 {a b:Int} (h:(a != b)=true):a ≠ b:=by simpa using h
theorem zQs {a b:Int} (h:(a != b)=false):a=b:=by simpa using h
theorem zZk{α:Type}(p:α->Bool):∀l:List α,l.dropWhile p=[] ↔ l.all p=true
 | []=>by simp
 | a :: l=>by
  by_cases h:p a=true
  ·rw[List.dropWhile_cons,if_pos h,zZk p l];simp[h]
  ·simp[List.dropWhile,h]
theorem zZq{α:Type}(p:α->Bool):∀l:List α,(l.dropWhile p).all p=true ↔ l.all p=true
 | []=>by simp
 | a :: l=>by
  by_cases h:p a=true
  ·simp only[List.dropWhile_cons,h,if_pos,List.all_cons,Bool.true_and]
   exact zZq p l
  ·simp[List.dropWhile,h]
theorem zWf{s:ByteArray}{k:Nat}(h:k<s.size):∃b,s[k]?=some b/\s.data.toList[k]?=some b:=by
 refine⟨s[k],by simp[h],?_⟩
 have:k<s.data.toList.length:=by simpa using h
 rw[List.getElem?_eq_getElem this]
 rfl
theorem zYW {s:ByteArray} {k:Nat} {b:UInt8} (h:s.data.toList[k]?=some b):s[k]?=some b:=by
 have hk:k<s.size:=by have:=(List.getElem?_eq_some_iff.1 h).1;simpa using this
 obtain⟨c,h1,h2⟩:=zWf hk
 rw[h2]at h
 rw[h1];exact h
theorem zJX {α:Type} (p:α->Bool) {l:List α} {k:Nat} {x:α} (h:l[k]?=some x):(l.take (k+1)).all p=((l.take k).all p && p x):=by
 rw[zQD h,List.all_append];simp
theorem zZ9{p q:Prop}[Decidable p][Decidable q](h:p ↔ q):decide p=decide q:=by simp[h]
theorem zJy(a b:List UInt8):bs a ++ bs b=bs (a ++ b):=zQU (by simp[bs])
theorem zJ0(a b:ByteArray):a ++ b=bs (a.data.toList ++ b.data.toList):=zQU (by simp[bs])
theorem zQ8(s:ByteArray)(i j:Nat):(s.extract i j).data.toList=(s.data.toList.take j).drop i:=by
 rw[ByteArray.data_extract,Array.toList_extract,List.extract_eq_take_drop,List.drop_take]
theorem zYi:∀k:Nat,k<10->(⟨#[48,49,50,51,52,53,54,55,56,57]⟩:ByteArray).extract k (k+1)=bs [UInt8.ofNat (48+k)]:=by
 intro k hk
 apply zQU
 rw[zQ8,zQQ]
 match k,hk with
 | 0,_=>rfl
 | 1,_=>rfl
 | 2,_=>rfl
 | 3,_=>rfl
 | 4,_=>rfl
 | 5,_=>rfl
 | 6,_=>rfl
 | 7,_=>rfl
 | 8,_=>rfl
 | 9,_=>rfl
theorem zZn{n:Nat}(h:n<10):zZQ n=[UInt8.ofNat (48+n)]:=by rw[zZQ,dif_pos h]
theorem zZL{n:Nat}(h:¬n<10):zZQ n=zZQ (n / 10) ++ [UInt8.ofNat (48+n % 10)]:=by rw[zZQ,dif_neg h]
theorem zKE(n:Nat):(zZQ n).length<=n+1:=by
 induction n using Nat.strongRecOn with
 | _ n ih=>
  by_cases h:n<10
  ·rw[zZn h];simp
  ·rw[zZL h]
   have:=ih (n / 10) (by omega)
   simp only[List.length_append,List.length_singleton];omega
theorem yXv(n:Nat):1<=(zZQ n).length:=by
 by_cases h:n<10
 ·rw[zZn h];simp
 ·rw[zZL h];simp
theorem zKI(n:Nat):∀b ∈ zZQ n,48<=b.toNat/\b.toNat<=57:=by
 induction n using Nat.strongRecOn with
 | _ n ih=>
  have one:∀k,k<10->48<=(UInt8.ofNat (48+k)).toNat/\(UInt8.ofNat (48+k)).toNat<=57:=λk hk=>by simp;omega
  by_cases h:n<10
  ·rw[zZn h];intro b hb;simp only[List.mem_singleton]at hb;subst hb;exact one n h
  ·rw[zZL h];intro b hb
   rcases List.mem_append.1 hb with hb|hb
   ·exact ih (n / 10) (by omega) b hb
   ·simp only[List.mem_singleton]at hb;subst hb;exact one _ (by omega)
theorem zKP(n:Nat):zJq (n:Int)=zZQ n:=by unfold zJq;rw[if_neg (by omega)];rfl
theorem zYf{n:Int}(h:n<0):zJq n=45 :: zZQ n.natAbs:=by unfold zJq;rw[if_pos h]
theorem xXL:zJq (-9223372036854775808)=[45,57,50,50,51,51,55,50,48,51,54,56,53,52,55,55,53,56,48,56]:=by decide +kernel
theorem zW8(l:List UInt8)(b:UInt8):zZ4 (l ++ [b])=if b=32 then zZ4 l else l ++ [b]:=by
 unfold zZ4
 rw[List.reverse_append,List.reverse_singleton,List.singleton_append,List.dropWhile_cons]
 by_cases h:b=32
 ·simp[h]
 ·simp[h]
def zKl(y:Nat):Bool:=(decide (y % 4=0) && decide (y % 100 ≠ 0)) || decide (y % 400=0)
def zJG(y m:Nat):Nat:=if m=2 then(if zKl y then 29 else 28)else if m=4∨m=6∨m=9∨m=11 then 30 else 31
def zQ5(y:Nat):Nat->Nat
 | 0=>0
 | m+1=>zQ5 y m+zJG y (m+1)
def zQz(y:Nat):Nat:=365 * (y - 1)+(y - 1) / 4 - (y - 1) / 100+(y - 1) / 400
def zQW(y m d:Nat):Prop:=1<=y/\y<=9999/\1<=m/\m<=12/\1<=d/\d<=zJG y m
instance (y m d:Nat):Decidable (zQW y m d):=by unfold zQW;exact inferInstance
def zZC(y m d:Nat):Nat:=zQz y+zQ5 y (m - 1)+d
theorem zXS{y:Nat}(h:1<=y):zQz (y+1)=zQz y+(if zKl y then 366 else 365):=by
 obtain⟨k,rfl⟩:∃k,y=k+1:=⟨y - 1,by omega⟩
 unfold zQz zKl
 simp only[Nat.add_sub_cancel]
 by_cases h1:(k+1) % 4=0 <;> by_cases h2:(k+1) % 100=0 <;> by_cases h3:(k+1) % 400=0 <;> simp[h1,h2,h3] <;> omega
theorem zJa(y:Nat):zQ5 y 12=if zKl y then 366 else 365:=by
 simp only[zQ5,zJG]
 cases zKl y <;> rfl
theorem zXT(y:Nat):∀{a b:Nat},a<=b->zQ5 y a<=zQ5 y b:=by
 intro a b h
 induction h with
 | refl=>exact Nat.le_refl _
 | step _ ih=>exact Nat.le_trans ih (by simp[zQ5])
theorem zXY{a b:Nat}(h0:1<=a)(h:a<=b):zQz a<=zQz b:=by
 induction h with
 | refl=>exact Nat.le_refl _
 | step h ih=>exact Nat.le_trans ih (by rw[zXS (Nat.le_trans h0 h)];omega)
theorem zQW.month{y m d:Nat}(h:zQW y m d):zQ5 y (m - 1)+d<=zQ5 y m:=by
 obtain⟨_,_,h3,_,_,h6⟩:=h
 obtain⟨k,rfl⟩:∃k,m=k+1:=⟨m - 1,by omega⟩
 simp only[zQ5,Nat.add_sub_cancel]
 omega
theorem zQW.year{y m d:Nat}(h:zQW y m d):zQz y<zZC y m d/\zZC y m d<=zQz (y+1):=by
 have h1:=h.month
 have h2:=zXT y h.2.2.2.1
 rw[zJa,]at h2
 rw[zXS h.1]
 have:=h.2.2.2.2.1
 unfold zZC
 omega
theorem yKK{y m d y' m' d':Nat}(h:zQW y m d)(h':zQW y' m' d')(e:zZC y m d=zZC y' m' d'):y=y'/\m=m'/\d=d':=by
 have a:=h.year
 have a':=h'.year
 have ey:y=y':=by
  rcases Nat.lt_trichotomy y y' with hlt|rfl|hlt
  ·have:=zXY (a:=y+1) (by omega) (show y+1<=y' by omega);omega
  ·rfl
  ·have:=zXY (a:=y'+1) (by omega) (show y'+1<=y by omega);omega
 subst ey
 have b:=h.month
 have b':=h'.month
 unfold zZC at e
 have c:=h.2.2.2.2.1
 have c':=h'.2.2.2.2.1
 have c3:=h.2.2.1
 have c3':=h'.2.2.1
 have em:m=m':=by
  rcases Nat.lt_trichotomy m m' with hlt|rfl|hlt
  ·have:=zXT y (show m<=m' - 1 by omega);omega
  ·rfl
  ·have:=zXT y (show m'<=m - 1 by omega);omega
 subst em
 exact⟨rfl,rfl,by omega⟩
theorem zKG:zQz 10000=3652059:=by decide
theorem zYP{y:Nat}(h:1<=y):365 * (y - 1)<=zQz y/\zQz y<=366 * (y - 1):=by
 unfold zQz;omega
theorem yZi(y m:Nat):zQ5 y m<=31 * m:=by
 induction m with
 | zero=>simp[zQ5]
 | succ m ih=>simp only[zQ5,zJG];split <;> (try split) <;> omega
theorem yYX(a b:Int):(a == b)=decide (a=b):=by simp[BEq.beq]
theorem zWE(n k:Nat):((n:Int)).tmod (k:Int)=((n % k:Nat):Int):=by rw[Int.tmod_eq_emod_of_nonneg (by omega)];norm_cast
theorem zKL(n k:Nat):((n:Int)).tdiv (k:Int)=((n / k:Nat):Int):=by rw[Int.tdiv_eq_ediv_of_nonneg (by omega)];norm_cast
def zZG:Nat->List UInt8->Nat
 | a,[]=>a
 | a,b :: l=>if zZm b then zZG (min (10 * a+(b.toNat - 48)) 1000000000000000) l else a
def yJ2:List UInt8->Int
 | []=>0
 | b :: r=>if b.toNat=45 then -(zZG 0 r:Int)else if b.toNat=43 then zZG 0 r else zZG 0 (b :: r)
theorem zZ0(b:UInt8)(r:List UInt8):yJ2 (b :: r)=if b.toNat=45 then -(zZG 0 r:Int)else if b.toNat=43 then zZG 0 r else zZG 0 (b :: r):=rfl
def yQr(l:List UInt8):Int:=yJ2 (l.dropWhile (· == 32))
theorem zY1:∀{l:List UInt8} {a:Nat},a<=1000000000000000->zZG a l<=1000000000000000
 | [],a,h=>h
 | b :: l,a,h=>by
  unfold zZG
  split
  ·exact zY1 (Nat.min_le_right _ _)
  ·exact h
theorem xQN(l:List UInt8):-1000000000000000<=yQr l/\yQr l<=1000000000000000:=by
 have h:=λr=>zY1 (l:=r) (a:=0) (by omega)
 unfold yQr yJ2
 split
 ·omega
 ·rename_i b r _
  have h1:=h r
  have h2:=h (b :: r)
  split
  ·omega
  ·split <;> omega
theorem yJk{b:UInt8}(h:zZm b=true):48<=b.toNat/\b.toNat<=57:=by
 unfold zZm at h;simpa using h
theorem yXD {b:UInt8} (h:¬(48<=b.toNat/\b.toNat<=57)):zZm b=false:=by
 unfold zZm;simp;omega
theorem yKL{b:UInt8}(h:48<=b.toNat/\b.toNat<=57):IntKind.i64.wrap (IntKind.u8.wrap (((b.toNat:Nat):Int) - 48))=((b.toNat - 48:Nat):Int):=by
 have e:IntKind.u8.wrap (((b.toNat:Nat):Int) - 48)=((b.toNat - 48:Nat):Int):=by rw[IntKind.wrap_u8];omega
 rw[e,zQa (by omega) (by omega)]
theorem yXJ(b:UInt8)(r:List UInt8):(bs (b :: r)).extract ((1:Int).toNat) (bs (b :: r)).size=bs r:=by
 apply zQU
 rw[zQ8,zQQ,zQQ,zQ9]
 show(List.take (b :: r).length (b :: r)).drop 1=r
 rw[List.take_length];rfl
def yJJ(y m d:Nat):Int × Bool:=(((if zQW y m d then zZC y m d else 0:Nat):Int),decide (zQW y m d))
def zX6(l:List UInt8):Int × Bool:=if l=List.replicate 8 32 then(0,true)else if l.length ≠ 8 then(0,false)else if l.all zZm then yJJ (zZG 0 (l.take 4)) (zZG 0 ((l.drop 4).take 2)) (zZG 0 (l.drop 6))else(0,false)
theorem zJb{l:List UInt8}(h:l.all zZm=true):yQr l=(zZG 0 l:Nat):=by
 cases l with
 | nil=>rfl
 | cons b r=>
  have hb:=yJk (List.all_eq_true.1 h b (by simp))
  have e:(b == 32)=false:=by
   simp only[beq_eq_false_iff_ne,ne_eq]
   intro h;subst h;revert hb;decide
  unfold yQr
  rw[List.dropWhile_cons,e]
  simp only[Bool.false_eq_true,if_false]
  rw[zZ0,if_neg (by omega),if_neg (by omega)]
def xZ2:List UInt8:=[48,49,50,51,52,53,54,55,56,57]
theorem yYU(b:UInt8):xZ2.contains b=zZm b:=by
 have h:∀n:Nat,n<256->xZ2.contains (UInt8.ofNat n)=zZm (UInt8.ofNat n):=by decide +kernel
 have:=h b.toNat b.toNat_lt
 rwa [UInt8.ofNat_toNat]at this
theorem xQu(s:ByteArray):(s.toList == (⟨#[32,32,32,32,32,32,32,32]⟩:ByteArray).toList)=decide (s.data.toList=List.replicate 8 32):=by
 rw[zX8]
 exact zZ9 ⟨λh=>by rw[h];rfl,λh=>zQU (by rw[h];rfl)⟩
theorem zWu{l:List UInt8}(h:l.all zZm=true)(n:Nat):(l.take n).all zZm=true:=List.all_eq_true.2 λb hb=>List.all_eq_true.1 h b (List.mem_of_mem_take hb)
theorem zWy{l:List UInt8}(h:l.all zZm=true)(n:Nat):(l.drop n).all zZm=true:=List.all_eq_true.2 λb hb=>List.all_eq_true.1 h b (List.mem_of_mem_drop hb)
theorem ext3{s:ByteArray}(h8:s.size=8):(s.extract 0 ((4:Int).toNat)).data.toList=s.data.toList.take 4/\(s.extract ((4:Int).toNat) ((6:Int).toNat)).data.toList=(s.data.toList.drop 4).take 2/\(s.extract ((6:Int).toNat) s.size).data.toList=s.data.toList.drop 6:=by
 refine⟨by rw[zQ8];rfl,?_,?_⟩
 ·rw[zQ8]
  show(List.take 6 s.data.toList).drop 4=_
  rw[List.drop_take]
 ·rw[zQ8,h8,List.take_of_length_le (by rw[zQ3];omega)];rfl
end Go.Sh
