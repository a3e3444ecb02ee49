import Derived.Test.YtcihcbfcgjepfaaGreatDoorShSeventeen
import Derived.Test.YtcihcbfcgjepfaaGreatDoorShEleven
import Derived.Lib.TrimByte
/- Bytes, lists met from a place on, days and dates, in plain words. For every program. -/
set_option maxRecDepth 100000
set_option linter.unusedVariables false
set_option linter.unusedSimpArgs false
namespace Go.Sh
open Go.RowKit
theorem zJq {α:Type} {l:List α} {k:Nat} {x:α} (h:l[k]?=some x):l.drop k=x :: l.drop (k+1):=by
 obtain⟨h1,h2⟩:=List.getElem?_eq_some_iff.1 h
 rw[List.drop_eq_getElem_cons h1,h2]
theorem zQP {α:Type} {l:List α} {k:Nat} {x:α} (h:l[k]?=some x):l.take (k+1)=l.take k ++ [x]:=by
 rw[List.take_add_one,h];rfl
theorem zXe{α:Type}{l:List α}{k:Nat}(h:k<l.length):∃x,l[k]?=some x:=⟨_,List.getElem?_eq_getElem h⟩
theorem zKk(a:Addr):a.add 0=a:=by simp[Addr.add]
theorem zZq(s t:ByteArray):(s.toList == t.toList)=decide (s=t):=by rw[←beq_toListBytes,zZe]
theorem zZd{s t:ByteArray}(h:s.data.toList=t.data.toList):s=t:=by
 obtain⟨⟨a⟩⟩:=s;obtain⟨⟨b⟩⟩:=t;simp at h;rw[h]
theorem zZc(s:ByteArray):s.data.toList.length=s.size:=by simp
abbrev bs(l:List UInt8):ByteArray:=⟨l.toArray⟩
theorem zJw(l:List UInt8):(bs l).data.toList=l:=by simp[bs]
theorem zXI(l:List UInt8):(bs l).size=l.length:=by simp[bs,ByteArray.size]
def zJU(n:Int):Prop:=-9223372036854775808<=n/\n<=9223372036854775807
instance:Enc Bool where
 sz:=1
 rd _ vs b:=vs=[.bool b]
 len h:=by rw[h];rfl
 pu _ h:=h
def zK3(b:UInt8):Bool:=decide (65<=b.toNat) && decide (b.toNat<=90)
def zY3(b:UInt8):Bool:=decide (48<=b.toNat) && decide (b.toNat<=57)
def zZg(s:ByteArray):Bool:=decide (1<=s.size) && decide (s.size<=10) && s.data.toList.all (λb=>zK3 b || zY3 b || decide (b.toNat=95)) && (s.data.toList.take 1).all zK3
def zJb(n:Nat):List UInt8:=if h:n<10 then [UInt8.ofNat (48+n)]else zJb (n / 10) ++ [UInt8.ofNat (48+n % 10)]
 termination_by n
 decreasing_by omega
def zJV(n:Int):List UInt8:=if n<0 then 45 :: zJb n.natAbs else zJb n.natAbs
def zZf(l:List UInt8):List UInt8:=(l.reverse.dropWhile (· == 32)).reverse
theorem zZC(s:ByteArray):(s.toList == (⟨#[]⟩:ByteArray).toList)=decide (s.size=0):=by
 rw[←beq_toListBytes,zZe]
 by_cases h:s.size=0
 ·have:s=⟨#[]⟩:=by
   obtain⟨⟨l⟩⟩:=s
   cases l with
   | nil=>rfl
   | cons a l=>simp[ByteArray.size]at h
  simp[this]
  rfl
 ·have:s ≠ ⟨#[]⟩:=λe=>h (by rw[e];rfl)
  simp[this,h]
theorem alB {w:World} {c:Array Value} {e:TypeId} {K:Nat->World->Prop} (h:∀w1,Pu w w1->w1.heap[w.heap.size]?=some (.cells c e)->K w.heap.size w1):alE (.cells c e) w K:=
 h _ (Pu.alloc w _) (zX4 w _)
theorem cl {w:World} {r:Nat} {c:Array Value} {e:TypeId} {f:Nat × Nat} (h:w.heap[r]?=some (.cells c e f)) (o:Nat):w.cell? ((⟨r,0,none⟩:Addr).add o)=c[o]?:=by rw[zQc,zQq h,Nat.zero_add]
theorem cl0 {w:World} {r:Nat} {c:Array Value} {e:TypeId} {f:Nat × Nat} (h:w.heap[r]?=some (.cells c e f)):w.cell? (⟨r,0,none⟩:Addr)=c[0]?:=zQq h 0
theorem zQA {a b:Int} (h:(a == b)=true):a=b:=by simpa using h
theorem zQo {a b:Int} (h:(a == b)=false):a ≠ b:=by simpa using h
theorem zQ4 {a b:Int} (h:(a != b)=true):a ≠ b:=by simpa using h
theorem zQu {a b:Int} (h:(a != b)=false):a=b:=by simpa using h
theorem zZj{α:Type}(p:α->Bool):∀l:List α,l.dropWhile p=[] ↔ l.all p=true
 | []=>by simp
 | a :: l=>by
  by_cases h:p a=true
  ·rw[List.dropWhile_cons,if_pos h,zZj p l];simp[h]
  ·simp[List.dropWhile,h]
theorem zZk{α:Type}(p:α->Bool):∀l:List α,(l.dropWhile p).all p=true ↔ l.all p=true
 | []=>by simp
 | a :: l=>by
  by_cases h:p a=true
  ·simp only[List.dropWhile_cons,h,if_pos,List.all_cons,Bool.true_and]
   exact zZk p l
  ·simp[List.dropWhile,h]
theorem zWW{s:ByteArray}{k:Nat}(h:k<s.size):∃b,s[k]?=some b/\s.data.toList[k]?=some b:=by
 refine⟨s[k],by simp[h],?_⟩
 have:k<s.data.toList.length:=by simpa using h
 rw[List.getElem?_eq_getElem this]
 rfl
theorem zZY {α:Type} (p:α->Bool) {l:List α} {k:Nat} {x:α} (h:l[k]?=some x):(l.take (k+1)).all p=((l.take k).all p && p x):=by
 rw[zQP h,List.all_append];simp
theorem zZy{p q:Prop}[Decidable p][Decidable q](h:p ↔ q):decide p=decide q:=by simp[h]
theorem zZA(a b:List UInt8):bs a ++ bs b=bs (a ++ b):=zZd (by simp[bs])
theorem zXt(s:ByteArray)(i j:Nat):(s.extract i j).data.toList=(s.data.toList.take j).drop i:=by
 rw[ByteArray.data_extract,Array.toList_extract,List.extract_eq_take_drop,List.drop_take]
theorem zWn:∀k:Nat,k<10->(⟨#[48,49,50,51,52,53,54,55,56,57]⟩:ByteArray).extract k (k+1)=bs [UInt8.ofNat (48+k)]:=by
 intro k hk
 apply zZd
 rw[zXt,zJw]
 match k,hk with
 | 0,_=>rfl
 | 1,_=>rfl
 | 2,_=>rfl
 | 3,_=>rfl
 | 4,_=>rfl
 | 5,_=>rfl
 | 6,_=>rfl
 | 7,_=>rfl
 | 8,_=>rfl
 | 9,_=>rfl
theorem zZt{n:Nat}(h:n<10):zJb n=[UInt8.ofNat (48+n)]:=by rw[zJb,dif_pos h]
theorem zZ3{n:Nat}(h:¬n<10):zJb n=zJb (n / 10) ++ [UInt8.ofNat (48+n % 10)]:=by rw[zJb,dif_neg h]
theorem zJ3(n:Nat):(zJb n).length<=n+1:=by
 induction n using Nat.strongRecOn with
 | _ n ih=>
  by_cases h:n<10
  ·rw[zZt h];simp
  ·rw[zZ3 h]
   have:=ih (n / 10) (by omega)
   simp only[List.length_append,List.length_singleton];omega
theorem yX8(n:Nat):1<=(zJb n).length:=by
 by_cases h:n<10
 ·rw[zZt h];simp
 ·rw[zZ3 h];simp
theorem zVo(n:Nat):∀b ∈ zJb n,48<=b.toNat/\b.toNat<=57:=by
 induction n using Nat.strongRecOn with
 | _ n ih=>
  have one:∀k,k<10->48<=(UInt8.ofNat (48+k)).toNat/\(UInt8.ofNat (48+k)).toNat<=57:=λk hk=>by simp;omega
  by_cases h:n<10
  ·rw[zZt h];intro b hb;simp only[List.mem_singleton]at hb;subst hb;exact one n h
  ·rw[zZ3 h];intro b hb
   rcases List.mem_append.1 hb with hb|hb
   ·exact ih (n / 10) (by omega) b hb
   ·simp only[List.mem_singleton]at hb;subst hb;exact one _ (by omega)
theorem zVW(n:Nat):zJV (n:Int)=zJb n:=by unfold zJV;rw[if_neg (by omega)];rfl
theorem zWm{n:Int}(h:n<0):zJV n=45 :: zJb n.natAbs:=by unfold zJV;rw[if_pos h]
theorem yVG:zJV (-9223372036854775808)=[45,57,50,50,51,51,55,50,48,51,54,56,53,52,55,55,53,56,48,56]:=by decide +kernel
theorem zWM(l:List UInt8)(b:UInt8):zZf (l ++ [b])=if b=32 then zZf l else l ++ [b]:=by
 unfold zZf
 rw[List.reverse_append,List.reverse_singleton,List.singleton_append,List.dropWhile_cons]
 by_cases h:b=32
 ·simp[h]
 ·simp[h]
def leapN(y:Nat):Bool:=(decide (y % 4=0) && decide (y % 100 ≠ 0)) || decide (y % 400=0)
def mdays(y m:Nat):Nat:=if m=2 then(if leapN y then 29 else 28)else if m=4∨m=6∨m=9∨m=11 then 30 else 31
def xX4(y m d:Nat):Prop:=1<=y/\y<=9999/\1<=m/\m<=12/\1<=d/\d<=mdays y m
instance (y m d:Nat):Decidable (xX4 y m d):=by unfold xX4;exact inferInstance
theorem xJX(a b:Int):(a == b)=decide (a=b):=by simp[BEq.beq]
end Go.Sh
