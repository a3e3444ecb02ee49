import Derived.Test.YtaeecpjhfmcliaaGreatDoorShNine
import Derived.Test.YtaeecpjhfmcliaaGreatDoorShSeventeen
import Derived.Test.YtaeecpjhfmcliaaGreatDoorLgPrA
import Derived.Test.YtaeecpjhfmcliaaGreatDoorShTwentyTwo
import Derived.Test.YtaeecpjhfmcliaaGreatDoorLtShelf
import Derived.Test.YtaeecpjhfmcliaaGreatDoorShThirteen
/- Table: data, and what is computed on it, in plain words. No condition. -/
set_option linter.unusedVariables false
set_option linter.unusedSimpArgs false
namespace Go.Proofs.YtaeecpjhfmcliaaGreatDoor
open Go.Sh Go.RowKit Tryz
theorem zXG {α:Type} {l:List α} {k:Nat} {x:α} (h:l[k]?=some x):l.drop k=x :: l.drop (k+1):=by
 obtain⟨h1,h2⟩:=List.getElem?_eq_some_iff.1 h
 rw[List.drop_eq_getElem_cons h1,h2]
theorem zQK {α:Type} {l:List α} {k:Nat} {x:α} (h:l[k]?=some x):l.take (k+1)=l.take k ++ [x]:=by
 rw[List.take_add_one,h];rfl
theorem zXf{α:Type}{l:List α}{k:Nat}(h:k<l.length):∃x,l[k]?=some x:=⟨_,List.getElem?_eq_getElem h⟩
theorem xX5(a:Addr):a.add 0=a:=by simp[Addr.add]
theorem zXI(s t:ByteArray):(s.toList == t.toList)=decide (s=t):=by rw[←beq_toListBytes,zXS]
theorem zQM{s t:ByteArray}(h:s.data.toList=t.data.toList):s=t:=by
 obtain⟨⟨a⟩⟩:=s;obtain⟨⟨b⟩⟩:=t;simp at h;rw[h]
theorem zQv(s:ByteArray):s.data.toList.length=s.size:=by simp
abbrev bs(l:List UInt8):ByteArray:=⟨l.toArray⟩
theorem zQF(l:List UInt8):(bs l).data.toList=l:=by simp[bs]
theorem yXS(s:ByteArray):bs s.data.toList=s:=by obtain⟨⟨a⟩⟩:=s;rfl
theorem zQ2(l:List UInt8):(bs l).size=l.length:=by simp[bs,ByteArray.size]
structure Fld where
 name:ByteArray
 kind:Int
 width:Int
 null:Bool
deriving DecidableEq, Inhabited
structure Val where
 kind:Int
 n:Int
 s:ByteArray
deriving DecidableEq, Inhabited
structure Rec where
 gone:Bool
 v:List Val
deriving DecidableEq, Inhabited
structure Tbl where
 page:Int
 fields:List Fld
 recs:List Rec
deriving DecidableEq, Inhabited
def zZ2(n:Int):Prop:=-9223372036854775808<=n/\n<=9223372036854775807
instance:Enc Bool where
 sz:=1
 rd _ vs b:=vs=[.bool b]
 len h:=by rw[h];rfl
 pu _ h:=h
abbrev zVr(f:Fld):List Value:=[.string f.name,.int .i64 f.kind,.int .i64 f.width,.bool f.null]
abbrev zWQ(v:Val):List Value:=[.int .i64 v.kind,.int .i64 v.n,.string v.s]
instance:Enc Fld where
 sz:=4
 rd _ vs f:=vs=zVr f/\zZ2 f.kind/\zZ2 f.width
 len h:=by rw[h.1];rfl
 pu _ h:=h
instance:Lim Fld:=⟨λf=>Lim.ok f.name⟩
instance:Enc Val where
 sz:=3
 rd _ vs v:=vs=zWQ v/\zZ2 v.kind/\zZ2 v.n
 len h:=by rw[h.1];rfl
 pu _ h:=h
instance:Lim Val:=⟨λv=>Lim.ok v.s⟩
instance:Enc Rec where
 sz:=2
 rd w vs r:=∃s:SV,vs=[.bool r.gone,.slice s.a s.len s.cap]/\zXV w s r.v
 len h:=by obtain⟨s,rfl,_⟩:=h;rfl
 pu hp h:=let ⟨s,h1,h2⟩:=h;⟨s,h1,h2.pu hp⟩
instance:Lim Rec:=⟨λr=>Lim.ok r.v⟩
structure zXB(w:World)(t:Tbl)(f r:SV):Prop where
 page:zZ2 t.page
 fields:zXV w f t.fields
 recs:zXV w r t.recs
theorem zXB.pu{w w':World}{t:Tbl}{f r:SV}(h:zXB w t f r)(hp:Pu w w'):zXB w' t f r:=⟨h.page,h.fields.pu hp,h.recs.pu hp⟩
instance:Enc Tbl where
 sz:=3
 rd w vs t:=∃f r:SV,vs=[.int .i64 t.page,.slice f.a f.len f.cap,.slice r.a r.len r.cap]/\zXB w t f r
 len h:=by obtain⟨f,r,rfl,_⟩:=h;rfl
 pu hp h:=let ⟨f,r,h1,h2⟩:=h;⟨f,r,h1,h2.pu hp⟩
instance:Lim Tbl:=⟨λt=>Lim.ok t.fields/\Lim.ok t.recs⟩
theorem zVj {w:World} {s:SV} {l:List Fld} (h:zXV w s l) {i:Nat} {f:Fld} (hx:l[i]?=some f):∃a,s.a=some a/\i<s.len/\zZ2 f.kind/\zZ2 f.width/\
  w.cell? (a.add (i * 4))=some (.string f.name)/\w.cell? ((a.add (i * 4)).add 0)=some (.string f.name)/\w.cell? ((a.add (i * 4)).add 1)=some (.int .i64 f.kind)/\w.cell? ((a.add (i * 4)).add 2)=some (.int .i64 f.width)/\w.cell? ((a.add (i * 4)).add 3)=some (.bool f.null):=by
 obtain⟨a,ha,vs,⟨rfl,h1⟩,h2⟩:=h.get i f hx
 have hi:i<l.length:=(List.getElem?_eq_some_iff.1 hx).1
 have h2:zJL w (a.add (i * 4)) (zVr f):=h2
 exact⟨a,ha,by rw[h.len];exact hi,h1.1,h1.2,by rw[←xX5 (a.add _)];exact h2 0 _ rfl,h2 0 _ rfl,h2 1 _ rfl,h2 2 _ rfl,h2 3 _ rfl⟩
theorem xZX {w:World} {s:SV} {l:List Val} (h:zXV w s l) {i:Nat} {v:Val} (hx:l[i]?=some v):∃a,s.a=some a/\i<s.len/\zZ2 v.kind/\zZ2 v.n/\
  w.cell? ((a.add (i * 3)).add 0)=some (.int .i64 v.kind)/\w.cell? ((a.add (i * 3)).add 1)=some (.int .i64 v.n)/\w.cell? ((a.add (i * 3)).add 2)=some (.string v.s):=by
 obtain⟨a,ha,vs,⟨rfl,h1⟩,h2⟩:=h.get i v hx
 have hi:i<l.length:=(List.getElem?_eq_some_iff.1 hx).1
 have h2:zJL w (a.add (i * 3)) (zWQ v):=h2
 exact⟨a,ha,by rw[h.len];exact hi,h1.1,h1.2,h2 0 _ rfl,h2 1 _ rfl,h2 2 _ rfl⟩
theorem yQB {w:World} {s:SV} {l:List Rec} (h:zXV w s l) {i:Nat} {r:Rec} (hx:l[i]?=some r):∃a t,s.a=some a/\i<s.len/\zXV w t r.v/\
  w.cell? ((a.add (i * 2)).add 0)=some (.bool r.gone)/\w.cell? ((a.add (i * 2)).add 1)=some (.slice t.a t.len t.cap):=by
 obtain⟨a,ha,vs,⟨t,rfl,h1⟩,h2⟩:=h.get i r hx
 have hi:i<l.length:=(List.getElem?_eq_some_iff.1 hx).1
 have h2:zJL w (a.add (i * 2)) [.bool r.gone,.slice t.a t.len t.cap]:=h2
 exact⟨a,t,ha,by rw[h.len];exact hi,h1,h2 0 _ rfl,h2 1 _ rfl⟩
def noV:Val:=⟨0,0,⟨#[]⟩⟩
def yZW(b:UInt8):Bool:=decide (65<=b.toNat) && decide (b.toNat<=90)
def zXZ(b:UInt8):Bool:=decide (48<=b.toNat) && decide (b.toNat<=57)
def zWl(s:ByteArray):Bool:=decide (1<=s.size) && decide (s.size<=10) && s.data.toList.all (λb=>yZW b || zXZ b || decide (b.toNat=95)) && (s.data.toList.take 1).all yZW
def zVw(k w:Int):Bool:=if k=1 then decide (w=1)else if k=2 then decide (1<=w) && decide (w<=15)else if k=3 then decide (w=8)else if k=4 then decide (1<=w) && decide (w<=254)else if k=5 then decide (w=8)else false
def zQo(f:Fld):Bool:=zWl f.name && zVw f.kind f.width
def zQY(p:Int):Bool:=decide (0<=p) && decide (p<=2)
def onB(b:UInt8)(p:Int):Bool:=if p=0 then decide (b.toNat<128)else if p=1 then true else decide (b.toNat<176) || (decide (224<=b.toNat) && decide (b.toNat<240))
def zZ0(l:List UInt8)(p:Int):Bool:=l.all λb=>onB b p
def zXb(l:List Fld):Nat:=((l.filter (·.null)).length+7) / 8
def zXE(l:List Fld):Int:=1+(zXb l:Int)+(l.map (·.width)).sum
def zQZ(l:List Fld):Int:=if l=[]∨l.all zQo=false then 1 else if ¬(l.map (·.name)).Nodup then 5 else if 16<l.length∨2000<zXE l then 3 else 0
def okN(k n:Int):Bool:=if k=0 then decide (n=0)else if k=1 then decide (n=0) || decide (n=1)else if k=2 then decide (-1000000000000000<=n) && decide (n<=1000000000000000)else if k=3 then decide (0<=n) && decide (n<=3652059)else if k=4 then decide (n=0)else false
def zXk(v:Val):Int:=if 2048<v.s.size then 3 else if okN v.kind v.n && (decide (v.kind=4) || decide (v.s.size=0))then 0 else 1
def zZq(n:Nat):List UInt8:=if h:n<10 then [UInt8.ofNat (48+n)]else zZq (n / 10) ++ [UInt8.ofNat (48+n % 10)]
 termination_by n
 decreasing_by omega
def zZS(n:Int):List UInt8:=if n<0 then 45 :: zZq n.natAbs else zZq n.natAbs
def zZ4(l:List UInt8):List UInt8:=(l.reverse.dropWhile (· == 32)).reverse
def zYo(n:Int):Bool:=decide (0<=n) && decide (n<=99999999)
def zXi(f:Fld)(p:Int)(v:Val):Bool:=
 if zXk v ≠ 0 then false else if v.kind=0 then f.null else if f.kind=5 then decide (v.kind=2) && zYo v.n else if v.kind ≠ f.kind then false
 else if f.kind=2 then decide (((zZS v.n).length:Int)<=f.width)else if f.kind=4 then decide ((v.s.size:Int)<=f.width) && decide (zZ4 v.s.data.toList=v.s.data.toList) && zZ0 v.s.data.toList p else true
def zZh(f:Fld):Val:=if f.kind=5 then⟨2,0,⟨#[]⟩⟩else⟨f.kind,0,⟨#[]⟩⟩
def zZk(f:Fld)(p:Int)(v:Val):Val × Int:=
 if v.kind=0 then(if f.null then(v,0)else(noV,7))else if v.kind ≠ (zZh f).kind then(noV,6)
 else if f.kind=4 then(if zZ0 (zZ4 (v.s.data.toList.take f.width.toNat)) p then(⟨4,0,bs (zZ4 (v.s.data.toList.take f.width.toNat))⟩,0)else(noV,10))
 else if zXi f p v then(v,0)else(noV,10)
def zJC(f:Fld)(p:Int)(v:Val):Val × Int:=if zQo f && zQY p then(if zXk v ≠ 0 then(noV,zXk v)else zZk f p v)else(noV,1)
def zQA(l:List Fld)(p:Int)(r:Rec):Int:=if r.v.length ≠ l.length then 10 else if (l.zip r.v).all (λx=>zXi x.1 p x.2)then 0 else 1
def zXg(l:List Fld)(p:Int):List Rec->Int
 | []=>0
 | r :: rs=>if zQA l p r ≠ 0 then zQA l p r else zXg l p rs
def zQh(t:Tbl):Int:=if zQY t.page then(if zQZ t.fields ≠ 0 then zQZ t.fields else if 300<t.recs.length then 3 else zXg t.fields t.page t.recs)else 1
end Go.Proofs.YtaeecpjhfmcliaaGreatDoor
/- Table: values, names, fields, pages: which are right. No condition. -/
set_option maxRecDepth 100000
namespace Go.Proofs.YtaeecpjhfmcliaaGreatDoor
open Go.Sh Go.RowKit Tryz
theorem zXJ(s:ByteArray):(s.toList == (⟨#[]⟩:ByteArray).toList)=decide (s.size=0):=by
 rw[←beq_toListBytes,zXS]
 by_cases h:s.size=0
 ·have:s=⟨#[]⟩:=by
   obtain⟨⟨l⟩⟩:=s
   cases l with
   | nil=>rfl
   | cons a l=>simp[ByteArray.size]at h
  simp[this]
  rfl
 ·have:s ≠ ⟨#[]⟩:=λe=>h (by rw[e];rfl)
  simp[this,h]
theorem alB {w:World} {c:Array Value} {e:TypeId} {K:Nat->World->Prop} (h:∀w1,Pu w w1->w1.heap[w.heap.size]?=some (.cells c e)->K w.heap.size w1):alE (.cells c e) w K:=
 h _ (Pu.alloc w _) (zX4 w _)
theorem cl {w:World} {r:Nat} {c:Array Value} {e:TypeId} {f:Nat × Nat} (h:w.heap[r]?=some (.cells c e f)) (o:Nat):w.cell? ((⟨r,0,none⟩:Addr).add o)=c[o]?:=by rw[zQn,zQ8 h,Nat.zero_add]
theorem cl0 {w:World} {r:Nat} {c:Array Value} {e:TypeId} {f:Nat × Nat} (h:w.heap[r]?=some (.cells c e f)):w.cell? (⟨r,0,none⟩:Addr)=c[0]?:=zQ8 h 0
theorem zXr {a b:Int} (h:(a == b)=true):a=b:=by simpa using h
theorem zQ9 {a b:Int} (h:(a == b)=false):a ≠ b:=by simpa using h
theorem zQG {a b:Int} (h:(a != b)=true):a ≠ b:=by simpa using h
theorem zQ4 {a b:Int} (h:(a != b)=false):a=b:=by simpa using h
theorem yKD(n:Int)(w:World):Calls prog 153 #[.int .i64 n] w λe w'=>e=.returned (.bool (decide (-1000000000000000<=n) && decide (n<=1000000000000000)))/\Pu w w':=by
 refine yJS _ w _ (Br.of (λd=>?_) (λd=>?_))
 ·exact⟨by rw[decide_eq_true (show -1000000000000000<=n from zQs d)];rfl,Pu.refl w⟩
 ·exact⟨by rw[decide_eq_false (show ¬ -1000000000000000<=n from zQj d)];rfl,Pu.refl w⟩
theorem yXo(n:Int)(w:World):Calls prog 191 #[.int .i64 n] w λe w'=>e=.returned (.bool (decide (0<=n) && decide (n<=3652059)))/\Pu w w':=by
 refine yJw _ w _ (Br.of (λd=>?_) (λd=>?_))
 ·exact⟨by rw[decide_eq_true (show 0<=n from zQs d)];rfl,Pu.refl w⟩
 ·exact⟨by rw[decide_eq_false (show ¬0<=n from zQj d)];rfl,Pu.refl w⟩
def zZE(v:Val):Bool:=okN v.kind v.n && (decide (v.kind=4) || decide (v.s.size=0))
theorem yKR(v:Val)(w:World):Calls prog 147 #[.agg #[.int .i64 v.kind,.int .i64 v.n,.string v.s]] w λe w'=>e=.returned (.bool (zZE v))/\Pu w w':=by
 refine yJN _ _ _ w _ ?_
 refine alB λw1 hp hb=>?_
 have fin:(v.kind=4->v.n=0)->(v.kind ≠ 4->v.s.size=0)->zVy (λe w'=>e=.returned (.bool (zZE v))/\Pu w w') (some (⟨w.heap.size,0,none⟩:Addr)) v.kind [] w1:=λh4 hs=>by
  have e:zZE v=okN v.kind v.n:=by
   unfold zZE
   by_cases h:v.kind=4 <;> simp[h,hs]
  refine Br.of (λd=>?_) (λd=>Br.of (λd1=>?_) (λd1=>Br.of (λd2=>?_) (λd2=>Br.of (λd3=>?_) (λd3=>?_))))
  ·have d:=zXr d
   refine⟨_,cl hb 1,by rw[e,okN,if_pos d];rfl,hp⟩
  ·have d:=zQ9 d
   have d1:=zXr d1
   refine⟨_,cl hb 1,Br.of (λd2=>?_) (λd2=>⟨_,cl hb 1,?_,hp⟩)⟩
   ·have d2:=zXr d2
    refine⟨by rw[e,okN,if_neg d,if_pos d1,d2];rfl,hp⟩
   ·have d2:=zQ9 d2
    rw[e,okN,if_neg d,if_pos d1,decide_eq_false d2];rfl
  ·have d:=zQ9 d
   have d1:=zQ9 d1
   have d2:=zXr d2
   refine⟨_,cl hb 1,(yKD v.n w1).mono ?_⟩
   rintro e' w2 ⟨rfl,ay⟩
   exact⟨_,rfl,by rw[e,okN,if_neg d,if_neg d1,if_pos d2],hp.trans ay⟩
  ·have d:=zQ9 d
   have d1:=zQ9 d1
   have d2:=zQ9 d2
   have d3:=zXr d3
   refine⟨_,cl hb 1,(yXo v.n w1).mono ?_⟩
   rintro e' w2 ⟨rfl,ay⟩
   exact⟨_,rfl,by rw[e,okN,if_neg d,if_neg d1,if_neg d2,if_pos d3],hp.trans ay⟩
  ·have d:=zQ9 d
   have d1:=zQ9 d1
   have d2:=zQ9 d2
   have d3:=zQ9 d3
   refine⟨_,cl0 hb,?_,hp⟩
   rw[e,okN,if_neg d,if_neg d1,if_neg d2,if_neg d3]
   by_cases h:v.kind=4
   ·simp[h,h4 h]
   ·simp[h]
 have bad:zZE v=false->(Ending.returned (Value.bool false)=Ending.returned (Value.bool (zZE v))/\Pu w w1):=λh=>⟨by rw[h],hp⟩
 refine⟨_,cl0 hb,Br.of (λd=>⟨_,cl hb 2,?_⟩) (λd=>?_)⟩
 ·have d:=zQG d
  rw[zXJ]
  refine Br.of (λd1=>?_) (λd1=>⟨_,cl0 hb,Br.of (λd2=>absurd (zXr d2) d) (λd2=>?_)⟩)
  ·exact bad (by simp at d1;simp[zZE,d,d1])
  ·exact⟨_,cl0 hb,fin (λh=>absurd h d) (λ_=>by simpa using d1)⟩
 ·have d:=zQ4 d
  refine⟨_,cl0 hb,Br.of (λd1=>⟨_,cl hb 1,?_⟩) (λd1=>absurd d (zQ9 d1))⟩
  refine Br.of (λd2=>?_) (λd2=>⟨_,cl0 hb,fin (λ_=>zQ4 d2) (λh=>absurd d h)⟩)
  exact bad (by have:=zQG d2;simp[zZE,okN,d,this])
theorem zJr(v:Val):zXk v=if 2048<v.s.size then 3 else if zZE v then 0 else 1:=rfl
theorem yVu(v:Val)(w:World):Calls prog 117 #[.agg #[.int .i64 v.kind,.int .i64 v.n,.string v.s]] w λe w'=>e=.returned (.int .i64 (zXk v))/\Pu w w':=by
 refine yZX _ _ _ w _ ?_
 refine alB λw1 hp hb=>⟨v.s,cl hb 2,Br.of (λd=>?_) (λd=>?_)⟩
 ·have:2048<v.s.size:=by have:=zQs d;omega
  exact⟨by rw[zJr,if_pos this],hp⟩
 ·have hn:¬2048<v.s.size:=by have:=zQj d;omega
  refine⟨_,cl hb 0,_,cl hb 1,_,cl hb 2,(yKR v w1).mono ?_⟩
  rintro e w2 ⟨rfl,ay⟩
  refine⟨_,rfl,Br.of (λd1=>?_) (λd1=>?_)⟩
  ·have d1:zZE v=false:=by simpa using d1
   exact⟨by rw[zJr,if_neg hn,d1];rfl,hp.trans ay⟩
  ·have d1:zZE v=true:=by simpa using d1
   exact⟨by rw[zJr,if_neg hn,d1];rfl,hp.trans ay⟩
end Go.Proofs.YtaeecpjhfmcliaaGreatDoor
/- Table: names, fields and pages: which are right. No condition. -/
namespace Go.Proofs.YtaeecpjhfmcliaaGreatDoor
open Go.Sh Go.RowKit Tryz
structure K5 where
 letter:Int
 least:Int
 most:Int
 wr:Nat
 rd:Nat
def zWP(k:K5):Value:=.agg #[.int .u8 k.letter,.int .i64 k.least,.int .i64 k.most,.func (.func k.wr) #[] #[],.func (.func k.rd) #[] #[]]
abbrev yVF(n:Int):Value:=.int .i64 n
def zX7:List (Int × K5):=[(1,⟨76,1,1,180,181⟩),(2,⟨78,1,15,182,183⟩),(3,⟨68,8,8,184,185⟩),(4,⟨67,1,254,186,187⟩),(5,⟨77,8,8,188,189⟩)]
theorem xJs:prog.underlying 176=some (.map 3 174):=by kernel_rfl
theorem yZS:yZl prog 3 yVF:=yY2 (q:=.i64) (by kernel_rfl)
theorem z102(w:World):(zeroValue 174).run prog w=.ok (.agg #[.int .u8 0,.int .i64 0,.int .i64 0,.nilFunc,.nilFunc]) w:=Tryz.zeroValue174 w
theorem zKN(w:World):Calls prog 145 #[] w λe w'=>∃b,e=.returned (.map (some b))/\zXl w' yVF zWP b zX7/\w.heap.size<=b/\Pu w w':=by
 refine yJT w _ ?_
 refine zWD λw1 fy=>?_
 have hp:Pu w w1:=by rw[fy];exact Pu.alloc w _
 have hm:zXl w1 yVF zWP w.heap.size ([]:List (Int × K5)):=by rw[fy];exact zXl.new w _ _
 obtain⟨w2,e2,h2,f2,_⟩:=hm.upd yZS xJs 1 ⟨76,1,1,180,181⟩
 obtain⟨w3,e3,h3,f3,_⟩:=h2.upd yZS xJs 2 ⟨78,1,15,182,183⟩
 obtain⟨w4,e4,h4,f4,_⟩:=h3.upd yZS xJs 3 ⟨68,8,8,184,185⟩
 obtain⟨w5,e5,h5,f5,_⟩:=h4.upd yZS xJs 4 ⟨67,1,254,186,187⟩
 obtain⟨w6,e6,h6,f6,_⟩:=h5.upd yZS xJs 5 ⟨77,8,8,188,189⟩
 refine⟨w2,e2,w3,e3,w4,e4,w5,e5,w6,e6,w.heap.size,rfl,h6,Nat.le_refl _,?_⟩
 have n:∀i,i=w.heap.size->w.heap.size<=i:=λi h=>by omega
 exact((((hp.andNew f2 n).andNew f3 n).andNew f4 n).andNew f5 n).andNew f6 n
def zQJ(k:Int):Option K5:=AL.get zX7 k
theorem zKc{w:World}{b:Nat}(h:zXl w yVF zWP b zX7)(k:Int)(ok:Bool):(Instr.lookup 176 (.map (some b)) (.int .i64 k) ok).run prog w =
  .ok (if ok then .tuple #[(zQJ k).elim (.agg #[.int .u8 0,.int .i64 0,.int .i64 0,.nilFunc,.nilFunc]) zWP,.bool (zQJ k).isSome]else(zQJ k).elim (.agg #[.int .u8 0,.int .i64 0,.int .i64 0,.nilFunc,.nilFunc]) zWP) w:=
 h.look yZS xJs (z102 w) k ok
theorem zZG(k:Int):(k=1/\zQJ k=some ⟨76,1,1,180,181⟩)∨(k=2/\zQJ k=some ⟨78,1,15,182,183⟩)∨(k=3/\zQJ k=some ⟨68,8,8,184,185⟩)∨(k=4/\zQJ k=some ⟨67,1,254,186,187⟩)∨(k=5/\zQJ k=some ⟨77,8,8,188,189⟩)∨(k ≠ 1/\k ≠ 2/\k ≠ 3/\k ≠ 4/\k ≠ 5/\zQJ k=none):=by
 by_cases h1:k=1
 ·subst h1;exact .inl ⟨rfl,rfl⟩
 by_cases h2:k=2
 ·subst h2;exact .inr (.inl ⟨rfl,rfl⟩)
 by_cases h3:k=3
 ·subst h3;exact .inr (.inr (.inl ⟨rfl,rfl⟩))
 by_cases h4:k=4
 ·subst h4;exact .inr (.inr (.inr (.inl ⟨rfl,rfl⟩)))
 by_cases h5:k=5
 ·subst h5;exact .inr (.inr (.inr (.inr (.inl ⟨rfl,rfl⟩))))
 ·refine .inr (.inr (.inr (.inr (.inr ⟨h1,h2,h3,h4,h5,?_⟩))))
  simp[zQJ,zX7,AL.get,h1,h2,h3,h4,h5,Ne.symm h1,Ne.symm h2,Ne.symm h3,Ne.symm h4,Ne.symm h5]
def xJ2:List UInt8:=[65,66,67,68,69,70,71,72,73,74,75,76,77,78,79,80,81,82,83,84,85,86,87,88,89,90,48,49,50,51,52,53,54,55,56,57,95]
theorem xZP(b:UInt8):xJ2.contains b=(yZW b || zXZ b || decide (b.toNat=95)):=by
 have h:∀n:Nat,n<256->xJ2.contains (UInt8.ofNat n)=(yZW (UInt8.ofNat n) || zXZ (UInt8.ofNat n) || decide ((UInt8.ofNat n).toNat=95)):=by decide +kernel
 have:=h b.toNat b.toNat_lt
 rwa [UInt8.ofNat_toNat]at this
theorem zX2{α:Type}(p:α->Bool):∀l:List α,l.dropWhile p=[] ↔ l.all p=true
 | []=>by simp
 | a :: l=>by
  by_cases h:p a=true
  ·rw[List.dropWhile_cons,if_pos h,zX2 p l];simp[h]
  ·simp[List.dropWhile,h]
theorem zX8{α:Type}(p:α->Bool):∀l:List α,(l.dropWhile p).all p=true ↔ l.all p=true
 | []=>by simp
 | a :: l=>by
  by_cases h:p a=true
  ·simp only[List.dropWhile_cons,h,if_pos,List.all_cons,Bool.true_and]
   exact zX8 p l
  ·simp[List.dropWhile,h]
theorem yQE(l cs:List UInt8):Lib.trimS l cs=[] ↔ l.all (cs.contains ·)=true:=by
 unfold Lib.trimS Lib.trimLeftS Lib.trimRightS
 rw[zX2]
 have:((l.reverse.dropWhile (cs.contains ·)).reverse).all (cs.contains ·)=(l.reverse.dropWhile (cs.contains ·)).all (cs.contains ·):=List.all_reverse
 rw[this,zX8,List.all_reverse]
theorem u110:(prog.info? 181).map (λi=>(i.zero,i.size))=some (some (.agg (Array.replicate 256 (.bool false))),256):=by kernel_rfl
theorem trim_c(s:ByteArray)(hs:s.size<=9223372036854775807)(w:World):Calls prog 190 #[.string s,.string ⟨#[65,66,67,68,69,70,71,72,73,74,75,76,77,78,79,80,81,82,83,84,85,86,87,88,89,90,48,49,50,51,52,53,54,55,56,57,95]⟩] w
  λe w'=>e=.returned (.string ⟨(Lib.trimS s.data.toList xJ2).toArray⟩)/\Pu w w':=
 Any.strings_Trim_laid Tryz.lays160 u110 s ⟨#[65,66,67,68,69,70,71,72,73,74,75,76,77,78,79,80,81,82,83,84,85,86,87,88,89,90,48,49,50,51,52,53,54,55,56,57,95]⟩ w hs (by decide) (ascii_of_all (by decide))
theorem zYg{s:ByteArray}{k:Nat}(h:k<s.size):∃b,s[k]?=some b/\s.data.toList[k]?=some b:=by
 refine⟨s[k],by simp[h],?_⟩
 have:k<s.data.toList.length:=by simpa using h
 rw[List.getElem?_eq_getElem this]
 rfl
theorem zW3 {s:ByteArray} {k:Nat} {b:UInt8} (h:s.data.toList[k]?=some b):s[k]?=some b:=by
 have hk:k<s.size:=by have:=(List.getElem?_eq_some_iff.1 h).1;simpa using this
 obtain⟨c,h1,h2⟩:=zYg hk
 rw[h2]at h
 rw[h1];exact h
theorem yYT(s:ByteArray)(hs:s.size<=140737488355328)(w:World):Calls prog 146 #[.string s] w λe w'=>e=.returned (.bool (zWl s))/\Pu w w':=by
 refine yJs _ w _ ?_
 have no:∀{w2:World},Pu w w2->zWl s=false->(Ending.returned (Value.bool false)=Ending.returned (Value.bool (zWl s))/\Pu w w2):=λh1 h2=>⟨by rw[h2],h1⟩
 rw[yW7,zXJ]
 refine Br.of (λd0=>Br.of (λd1=>(trim_c s (by omega) w).mono ?_) (λd1=>no (Pu.refl _) ?_)) (λd0=>no (Pu.refl _) ?_)
 ·rintro e w2 ⟨rfl,ay⟩
  have d0:¬s.size=0:=by simpa using d0
  have d1:s.size<=10:=by have:=zQs d1;omega
  refine⟨_,rfl,?_⟩
  have e2:((ByteArray.mk (Lib.trimS s.data.toList xJ2).toArray).toList == (⟨#[]⟩:ByteArray).toList)=s.data.toList.all (λb=>yZW b || zXZ b || decide (b.toNat=95)):=by
   rw[zXJ]
   have h1:((ByteArray.mk (Lib.trimS s.data.toList xJ2).toArray).size=0) ↔ s.data.toList.all (xJ2.contains ·)=true:=by
    rw[←yQE];simp[ByteArray.size]
   rw[show(λb:UInt8=>yZW b || zXZ b || decide (b.toNat=95))=(xJ2.contains ·)from funext λb=>(xZP b).symm]
   rw[Bool.eq_iff_iff,decide_eq_true_iff];exact h1
  rw[e2]
  have en:zWl s=(s.data.toList.all (λb=>yZW b || zXZ b || decide (b.toNat=95)) && (s.data.toList.take 1).all yZW):=by
   unfold zWl;rw[decide_eq_true (show 1<=s.size by omega),decide_eq_true d1];simp only[Bool.true_and]
  obtain⟨b,aD,aL⟩:=zYg (s:=s) (k:=0) (by omega)
  have ht:s.data.toList.take 1=[b]:=by
   cases hl:s.data.toList with
   | nil=>rw[hl]at aL;simp at aL
   | cons a r=>rw[hl]at aL;simp at aL;simp[aL]
  refine Br.of (λd2=>⟨b,by omega,aD,Br.of (λd3=>⟨b,by omega,aD,?_,ay⟩) (λd3=>?_)⟩) (λd2=>?_)
  ·have d3:=zQs d3
   rw[en,d2,ht]
   simp only[List.all_cons,List.all_nil,Bool.and_true,Bool.true_and,yZW]
   rw[decide_eq_true (show 65<=b.toNat by omega)]
   simp only[Bool.true_and]
   congr 3
   exact propext (by omega)
  ·have d3:=zQj d3
   refine no ay ?_
   rw[en,d2,ht]
   simp only[List.all_cons,List.all_nil,Bool.and_true,Bool.true_and,yZW]
   rw[decide_eq_false (show ¬65<=b.toNat by omega)];rfl
  ·exact no ay (by rw[en,d2];rfl)
 ·have:=zQj d1
  unfold zWl;rw[decide_eq_false (show ¬s.size<=10 by omega)];simp
 ·have:s.size=0:=by simpa using d0
  unfold zWl;rw[this];rfl
theorem zYb {α:Type} (p:α->Bool) {l:List α} {k:Nat} {x:α} (h:l[k]?=some x):(l.take (k+1)).all p=((l.take k).all p && p x):=by
 rw[zQK h,List.all_append];simp
end Go.Proofs.YtaeecpjhfmcliaaGreatDoor
/- Table: fields and pages: which are right; empty values. No condition. -/
namespace Go.Proofs.YtaeecpjhfmcliaaGreatDoor
open Go.Sh Go.RowKit Tryz
theorem zZj{p q:Prop}[Decidable p][Decidable q](h:p ↔ q):decide p=decide q:=by simp[h]
abbrev yQA(f:Fld):Value:=.agg #[.string f.name,.int .i64 f.kind,.int .i64 f.width,.bool f.null]
abbrev zKL(v:Val):Value:=.agg #[.int .i64 v.kind,.int .i64 v.n,.string v.s]
theorem yZb(n:Int)(w:World):Calls prog 116 #[.int .i64 n] w λe w'=>e=.returned (.bool (zQY n))/\Pu w w':=by
 refine yJV _ w _ (Br.of (λd=>?_) (λd=>?_))
 ·exact⟨by rw[zQY,decide_eq_true (show 0<=n from zQs d)];rfl,Pu.refl w⟩
 ·exact⟨by rw[zQY,decide_eq_false (show ¬0<=n from zQj d)];rfl,Pu.refl w⟩
theorem yVf(k:Int):∃n a b x y,(zQJ k).elim (.agg #[.int .u8 0,.int .i64 0,.int .i64 0,.nilFunc,.nilFunc]) zWP=.agg #[.int .u8 n,.int .i64 a,.int .i64 b,x,y]/\zYz x=true/\zYz y=true/\
  (zQJ k).isSome=decide (k=1∨k=2∨k=3∨k=4∨k=5)/\((zQJ k).isSome=true->∀m:Int,zVw k m=(decide (a<=m) && decide (m<=b))):=by
 rcases zZG k with⟨rfl,h⟩|⟨rfl,h⟩|⟨rfl,h⟩|⟨rfl,h⟩|⟨rfl,h⟩|⟨h1,h2,h3,h4,h5,h⟩
 ·rw[h];refine⟨_,_,_,_,_,rfl,rfl,rfl,rfl,λ_ m=>?_⟩
  show decide (m=1)=(decide (1<=m) && decide (m<=1))
  rw[←Bool.decide_and];exact zZj (by omega)
 ·rw[h];exact⟨_,_,_,_,_,rfl,rfl,rfl,rfl,λ_ m=>rfl⟩
 ·rw[h];refine⟨_,_,_,_,_,rfl,rfl,rfl,rfl,λ_ m=>?_⟩
  show decide (m=8)=(decide (8<=m) && decide (m<=8))
  rw[←Bool.decide_and];exact zZj (by omega)
 ·rw[h];exact⟨_,_,_,_,_,rfl,rfl,rfl,rfl,λ_ m=>rfl⟩
 ·rw[h];refine⟨_,_,_,_,_,rfl,rfl,rfl,rfl,λ_ m=>?_⟩
  show decide (m=8)=(decide (8<=m) && decide (m<=8))
  rw[←Bool.decide_and];exact zZj (by omega)
 ·rw[h];exact⟨_,_,_,_,_,rfl,rfl,rfl,by simp[h1,h2,h3,h4,h5],λhn=>by simp at hn⟩
theorem zV7 {k:Int} (h:(zQJ k).isSome=false) (m:Int):zVw k m=false:=by
 rcases zZG k with⟨rfl,h1⟩|⟨rfl,h1⟩|⟨rfl,h1⟩|⟨rfl,h1⟩|⟨rfl,h1⟩|⟨h1,h2,h3,h4,h5,_⟩
 ·rw[h1]at h;simp at h
 ·rw[h1]at h;simp at h
 ·rw[h1]at h;simp at h
 ·rw[h1]at h;simp at h
 ·rw[h1]at h;simp at h
 ·unfold zVw;rw[if_neg h1,if_neg h2,if_neg h3,if_neg h4,if_neg h5]
theorem xZI{n a b:Int}{x y:Value}(hx:zYz x=true)(hy:zYz y=true):(#[.int .u8 n,.int .i64 a,.int .i64 b,x,y]:Array Value).toList.all zYz=true:=by
 show([.int .u8 n,.int .i64 a,.int .i64 b,x,y]:List Value).all zYz=true
 simp only[List.all_cons,List.all_nil,hx,hy];rfl
theorem s102:zXn prog 174=5:=by kernel_rfl
theorem s25:zXn prog 73=3:=by kernel_rfl
theorem s23:zXn prog 129=4:=by kernel_rfl
theorem yQ7(f:Fld)(hs:f.name.size<=140737488355328)(w:World):Calls prog 115 #[yQA f] w λe w'=>e=.returned (.bool (zQo f))/\Pu w w':=by
 refine yZO _ _ _ _ w _ ?_
 refine alB λw1 aA aD=>zQe λw2 ay yf=>?_
 have dW:=aA.trans ay
 refine⟨λw'=>Pu w2 w',Pu.refl _,f.kind,λw' hw'=>hw'.cell (ay.cell (cl aD 1)),?_⟩
 obtain⟨n,a,b,x,y,hk,hx,hy,hsome,hkw⟩:=yVf f.kind
 have main:∀{w3 w4:World} {r:Nat},Pu w1 w3->w3.heap[r]?=some (.cells #[.int .u8 n,.int .i64 a,.int .i64 b,x,y] 174)->Pu w w3->
   yXW (λe w'=>e=.returned (.bool (zQo f))/\Pu w w') (some (⟨w.heap.size,0,none⟩:Addr)) (some (⟨r,0,none⟩:Addr)) (zQJ f.kind).isSome [] w3:=λ{w3 w4 r} q1 q2 q3=>by
  have no:∀{w5:World},Pu w w5->zQo f=false->(Ending.returned (Value.bool false)=Ending.returned (Value.bool (zQo f))/\Pu w w5):=λh1 h2=>⟨by rw[h2],h1⟩
  have be:=q1.blk aD
  refine Br.of (λd=>⟨f.name,cl0 be,(yYT f.name hs w3).mono ?_⟩) (λd=>no q3 ?_)
  ·rintro e w5 ⟨rfl,ba⟩
   have bq:=ba.blk be
   have yg:=ba.blk q2
   refine⟨_,rfl,Br.of (λd1=>⟨_,cl bq 2,_,cl yg 1,Br.of (λd2=>⟨_,cl bq 2,_,cl yg 2,?_,q3.trans ba⟩) (λd2=>no (q3.trans ba) ?_)⟩) (λd1=>no (q3.trans ba) ?_)⟩
   ·unfold zQo;rw[d1,hkw d,decide_eq_true (show a<=f.width from zQs d2)];rfl
   ·unfold zQo;rw[d1,hkw d,decide_eq_false (show ¬a<=f.width from zQj d2)];rfl
   ·unfold zQo;rw[d1];rfl
  ·unfold zQo;rw[zV7 d];simp
 have hlook:∀{m:Nat} {w':World},zXl w' yVF zWP m zX7->(Instr.lookup 176 (.map (some m)) (.int .i64 f.kind) true).run prog w'=.ok (.tuple #[.agg #[.int .u8 n,.int .i64 a,.int .i64 b,x,y],.bool (zQJ f.kind).isSome]) w':=λ{m w'} hm=>by
  rw[zKc hm,hk];rfl
 constructor
 ·refine(zKN w2).mono ?_
  rintro e w3 ⟨m,rfl,hm,_,aC⟩
  refine⟨some m,rfl,λw'=>Pu w3 w',Pu.refl _,λu hu=>aC.trans hu,n,a,b,x,y,(zQJ f.kind).isSome,λw' hw'=>hlook (hm.pu hw'),?_⟩
  refine alB λw4 aK cc=>⟨λw'=>Pu w3 w',aK,λu hu=>hu,?_⟩
  refine zQl cc s102.symm rfl (xZI hx hy) λw5 bq ci j9=>?_
  have ck:Pu w3 w5:=aK.andNew ci λi hi=>by omega
  exact main (w4:=w4) ((ay.trans aC).trans ck) bq (dW.trans (aC.trans ck))
 ·refine alB λw4 aK cc=>⟨λw'=>Pu w4 w',Pu.refl _,λu hu=>aK.trans hu,?_⟩
  refine(zKN w4).mono ?_
  rintro e w3 ⟨m,rfl,hm,_,aC⟩
  refine⟨some m,rfl,λw'=>Pu w3 w',Pu.refl _,λu hu=>aC.trans hu,n,a,b,x,y,(zQJ f.kind).isSome,λw' hw'=>hlook (hm.pu hw'),?_⟩
  refine zQl (aC.blk cc) s102.symm rfl (xZI hx hy) λw5 bq ci j9=>?_
  have iA:Pu w2 w5:=(aK.trans aC).andNew ci λi hi=>by omega
  exact main (w4:=w4) (ay.trans iA) bq (dW.trans iA)
theorem xJk(f:Fld)(w:World):Calls prog 118 #[yQA f] w λe w'=>e=.returned (zKL (zZh f))/\Pu w w':=by
 refine yKp _ _ _ _ w _ ?_
 refine alB λw1 aA aD=>alB λw2 ay aL=>⟨_,cl (ay.blk aD) 1,Br.of (λd=>?_) (λd=>⟨_,cl (ay.blk aD) 1,?_⟩)⟩
 ·refine zQl aL s25.symm rfl rfl λw3 be ef oX=>?_
  have bn:Pu w w3:=aA.trans (ay.andNew ef λi hi=>by omega)
  exact⟨_,cl be 0,_,cl be 1,_,cl be 2,by unfold zZh;rw[if_pos (zXr d)],bn⟩
 ·refine zQl aL s25.symm rfl rfl λw3 be ef oX=>?_
  have bn:Pu w w3:=aA.trans (ay.andNew ef λi hi=>by omega)
  exact⟨_,cl be 0,_,cl be 1,_,cl be 2,by unfold zZh;rw[if_neg (zQ9 d)],bn⟩
end Go.Proofs.YtaeecpjhfmcliaaGreatDoor
/- Table: numbers in digits; blanks at a text's end. No condition. -/
namespace Go.Proofs.YtaeecpjhfmcliaaGreatDoor
open Go.Sh Go.RowKit Tryz
theorem zK2(a b:List UInt8):bs a ++ bs b=bs (a ++ b):=zQM (by simp[bs])
theorem zZB(a b:ByteArray):a ++ b=bs (a.data.toList ++ b.data.toList):=zQM (by simp[bs])
theorem zQ3(s:ByteArray)(i j:Nat):(s.extract i j).data.toList=(s.data.toList.take j).drop i:=by
 rw[ByteArray.data_extract,Array.toList_extract,List.extract_eq_take_drop,List.drop_take]
theorem zVV:∀k:Nat,k<10->(⟨#[48,49,50,51,52,53,54,55,56,57]⟩:ByteArray).extract k (k+1)=bs [UInt8.ofNat (48+k)]:=by
 intro k hk
 apply zQM
 rw[zQ3,zQF]
 match k,hk with
 | 0,_=>rfl
 | 1,_=>rfl
 | 2,_=>rfl
 | 3,_=>rfl
 | 4,_=>rfl
 | 5,_=>rfl
 | 6,_=>rfl
 | 7,_=>rfl
 | 8,_=>rfl
 | 9,_=>rfl
theorem zZi{n:Nat}(h:n<10):zZq n=[UInt8.ofNat (48+n)]:=by rw[zZq,dif_pos h]
theorem zZ3{n:Nat}(h:¬n<10):zZq n=zZq (n / 10) ++ [UInt8.ofNat (48+n % 10)]:=by rw[zZq,dif_neg h]
theorem zYA(n:Nat):(zZq n).length<=n+1:=by
 induction n using Nat.strongRecOn with
 | _ n ih=>
  by_cases h:n<10
  ·rw[zZi h];simp
  ·rw[zZ3 h]
   have:=ih (n / 10) (by omega)
   simp only[List.length_append,List.length_singleton];omega
theorem zYd(n:Nat):1<=(zZq n).length:=by
 by_cases h:n<10
 ·rw[zZi h];simp
 ·rw[zZ3 h];simp
theorem zJ9(n:Nat):∀b ∈ zZq n,48<=b.toNat/\b.toNat<=57:=by
 induction n using Nat.strongRecOn with
 | _ n ih=>
  have one:∀k,k<10->48<=(UInt8.ofNat (48+k)).toNat/\(UInt8.ofNat (48+k)).toNat<=57:=λk hk=>by simp;omega
  by_cases h:n<10
  ·rw[zZi h];intro b hb;simp only[List.mem_singleton]at hb;subst hb;exact one n h
  ·rw[zZ3 h];intro b hb
   rcases List.mem_append.1 hb with hb|hb
   ·exact ih (n / 10) (by omega) b hb
   ·simp only[List.mem_singleton]at hb;subst hb;exact one _ (by omega)
theorem yZo:∀(n:Nat),n<=4611686018427387904->∀w:World,Calls prog 154 #[.int .i64 (n:Int)] w λe w'=>e=.returned (.string (bs (zZq n)))/\Pu w w':=by
 intro n
 induction n using Nat.strongRecOn with
 | _ n ih=>
  intro hn w
  refine zV5 _ w _ (Br.of (λd=>absurd (zQs d) (by omega)) (λd=>Br.of (λd1=>?_) (λd1=>zQe λw4 aK _=>?_)))
  ·have d1:n<10:=by have:=zQs d1;omega
   rw[zQa (by omega) (by omega)]
   refine⟨by omega,?_,by omega,by omega,?_,Pu.refl w⟩
   ·show _<=10;omega
   ·rw[zZW,show((n:Int)+1).toNat=n+1 by omega,zVV n d1,zZi d1]
  ·have d1:¬n<10:=by have:=zQj d1;omega
   have e1:((n:Int).tmod 10)=((n % 10:Nat):Int):=by rw[Int.tmod_eq_emod_of_nonneg (by omega)];omega
   have e2:((n:Int).tdiv 10)=((n / 10:Nat):Int):=by rw[Int.tdiv_eq_ediv_of_nonneg (by omega)];omega
   rw[e1,e2,zQa (by omega) (by omega),zQa (by omega) (by omega)]
   have e3:(((n % 10:Nat):Int)+1).toNat=n % 10+1:=by omega
   rw[e3,zZW,zVV (n % 10) (by omega)]
   refine⟨rfl,by omega,rfl,by omega,rfl,by omega,by omega,?_,by omega,by omega,(ih (n / 10) (by omega) (by omega) w4).mono ?_⟩
   ·show _<=10;omega
   rintro e w5 ⟨rfl,ba⟩
   refine⟨_,rfl,?_,?_,aK.trans ba⟩
   ·rw[zQ2,zQ2];have:=zYA (n / 10);simp only[List.length_singleton];omega
   ·rw[zK2,zZ3 d1]
theorem zKx(n:Nat):zZS (n:Int)=zZq n:=by unfold zZS;rw[if_neg (by omega)];rfl
theorem zYt{n:Int}(h:n<0):zZS n=45 :: zZq n.natAbs:=by unfold zZS;rw[if_pos h]
theorem dec_c{n:Int}(h1:-4611686018427387904<=n)(h2:n<=4611686018427387904)(w:World):Calls prog 154 #[.int .i64 n] w λe w'=>e=.returned (.string (bs (zZS n)))/\Pu w w':=by
 by_cases h:n<0
 ·refine zV5 _ w _ (Br.of (λd=>?_) (λd=>absurd h (zQj d)))
  rw[zQa (by omega) (by omega)]
  have e:(0 - n:Int)=((n.natAbs:Nat):Int):=by omega
  rw[e]
  refine(yZo n.natAbs (by omega) w).mono ?_
  rintro e w2 ⟨rfl,hp⟩
  refine⟨_,rfl,?_,?_,hp⟩
  ·have e4:=zQ2 (zZq n.natAbs);have:=zYA n.natAbs;show(((1+(bs (zZq n.natAbs)).size:Nat)):Int)<=_;omega
  ·rw[zYt h];exact congrArg (λx=>Ending.returned (Value.string x)) (zK2 [45] _)
 ·obtain⟨k,rfl⟩:∃k:Nat,n=k:=⟨n.toNat,by omega⟩
  rw[zKx]
  exact yZo k (by omega) w
theorem zWz(b:UInt8):∀n,Lib.repeatL [b] n=List.replicate n b
 | 0=>rfl
 | n+1=>by rw[List.replicate_succ,←zWz b n];rfl
theorem zJ8(b:UInt8)(n:Nat)(hn:n<=140737488355328)(w:World):Calls prog 155 #[.string ⟨#[b]⟩,.int .i64 (n:Int)] w λe w'=>e=.returned (.string (bs (List.replicate n b)))/\Pu w w':=by
 have h:=Any.strings_Repeat Tryz.lays105 Tryz.Builder_Extra_105 ⟨#[b]⟩ n w (by omega) (by show 1 * n<=_;omega)
 have e:Lib.repeatL (⟨#[b]⟩:ByteArray).data.toList n=List.replicate n b:=zWz b n
 rw[e]at h
 exact h
theorem zW2(s:ByteArray)(hs:s.size<=140737488355328)(w:World):Calls prog 119 #[.string s,.string ⟨#[32]⟩] w λe w'=>e=.returned (.string (bs (zZ4 s.data.toList)))/\Pu w w':=
 (Any.strings_TrimRight_one Tryz.lays162 s 32 (by decide) w (by omega)).mono λe w' ⟨h1,h2⟩=>⟨h1,h2 ▸ Pu.refl _⟩
theorem yQL(l:List UInt8)(b:UInt8):zZ4 (l ++ [b])=if b=32 then zZ4 l else l ++ [b]:=by
 unfold zZ4
 rw[List.reverse_append,List.reverse_singleton,List.singleton_append,List.dropWhile_cons]
 by_cases h:b=32
 ·simp[h]
 ·simp[h]
end Go.Proofs.YtaeecpjhfmcliaaGreatDoor
/- Table: pages of characters; which texts a page has. No condition. -/
namespace Go.Proofs.YtaeecpjhfmcliaaGreatDoor
open Go.Sh Go.RowKit Tryz
def yXX(w:World)(r:Nat)(g:Nat->Bool):Prop:=∃c,w.heap[r]?=some (.cells c 213)/\c.size=768/\∀i,i<768->∃n:Int,c[i]?=some (.int .i32 n)/\decide (n<0)=g i
theorem yXX.ext{w:World}{r:Nat}{g g':Nat->Bool}(h:yXX w r g)(e:∀i,i<768->g i=g' i):yXX w r g':=
 let ⟨c,h1,h2,h3⟩:=h;⟨c,h1,h2,λi hi=>let ⟨n,h4,h5⟩:=h3 i hi;⟨n,h4,h5.trans (e i hi)⟩⟩
theorem yXX.fr{B:Nat->Prop}{w w':World}{r:Nat}{g:Nat->Bool}(h:yXX w r g)(hf:Fr B w w')(hn:¬B r):yXX w' r g:=
 let ⟨c,h1,h2⟩:=h;⟨c,hf.blk h1 hn,h2⟩
theorem yXX.st{w:World}{r:Nat}{g:Nat->Bool}(h:yXX w r g){j:Nat}(hj:j<768)(n:Int)(a:Addr)(ha:a=⟨r,j,none⟩){K:World->Prop}
  (hK:∀w',yXX w' r (λi=>if i=j then decide (n<0)else g i)->Fr (·=r) w w'->K w'):st1 a (.int .i32 n) w K:=by
 subst ha
 obtain⟨c,h1,h2,h3⟩:=h
 refine zQw h1 (by omega) λw' hw' hb'=>hK w' ⟨_,hb',by simp[h2],λi hi=>?_⟩ (by rw[hw'];exact Fr.cell w r j _)
 by_cases e:i=j
 ·subst e;exact⟨n,by simp[h2,hi],by simp⟩
 ·obtain⟨m,h4,h5⟩:=h3 i hi
  exact⟨m,by rw[Array.getElem?_setIfInBounds_ne (Ne.symm e)];exact h4,by simp[e,h5]⟩
theorem i32_in{n:Int}(h1:-2147483648<=n)(h2:n<=2147483647):IntKind.i32.wrap n=n:=Go.IntWalk.i32_in n ⟨h1,h2⟩
theorem xZM:zc prog 213=Array.replicate 768 (.int .i32 0):=by kernel_rfl
theorem s149:zXn prog 213=768:=by kernel_rfl
def sg1(k i:Nat):Bool:=decide ((128<=i/\i<k)∨(640<=i/\i<512+k))
def sg2(k i:Nat):Bool:=decide ((128<=i/\i<256)∨(512+k<=i/\i<768))
def sg3(k i:Nat):Bool:=decide ((128<=i/\i<256)∨(688<=i/\i<736)∨(512+k<=i/\i<768))
theorem ad1(r:Nat)(p k:Nat):(((⟨r,0,none⟩:Addr).add ((p:Int).toNat * 256)).add ((k:Int).toNat * 1))=⟨r,p * 256+k,none⟩:=by
 rw[zQn,zQn,zZW,zZW,Nat.zero_add,Nat.mul_one]
theorem xJx(w:World):Calls prog 196 #[] w λe w'=>∃c:Array Value,e=.returned (.agg c)/\c.size=768/\(∀i,i<768->∃n:Int,c[i]?=some (.int .i32 n)/\decide (n<0)=sg3 240 i)/\Pu w w':=by
 refine yJn w _ ?_
 refine alB λw1 aA aD=>alB λw2 ay aL=>?_
 have zU:w.heap.size<w1.heap.size:=zQ5 aD
 have g0:yXX w2 w1.heap.size (sg1 0):=⟨_,aL,by rw[xZM];simp,λi hi=>⟨0,by rw[xZM];simp[hi],by unfold sg1;simp;omega⟩⟩
 -- the end
 have fin:∀{w3:World},yXX w3 w1.heap.size (sg3 240)->Fr (·=w1.heap.size) w2 w3->yV3 (λe w'=>∃c:Array Value,e=.returned (.agg c)/\c.size=768/\(∀i,i<768->∃n:Int,c[i]?=some (.int .i32 n)/\decide (n<0)=sg3 240 i)/\Pu w w') (some (⟨w.heap.size,0,none⟩:Addr)) (some (⟨w1.heap.size,0,none⟩:Addr)) [] w3:=by
  intro w3 ⟨c,h1,h2,h3⟩ hf
  have be:=hf.blk (ay.blk aD) (show ¬w.heap.size=w1.heap.size by omega)
  refine⟨c,h2,λi hi=>cl h1 i,?_⟩
  have ho:c.toList.all zYz=true:=by
   rw[List.all_eq_true]
   intro v hv
   obtain⟨i,hi,rfl⟩:=List.getElem_of_mem hv
   have hi':i<c.size:=by simpa using hi
   obtain⟨n,h4,_⟩:=h3 i (by omega)
   rw[Array.getElem?_eq_getElem hi']at h4
   have h4:=Option.some.inj h4
   rw[Array.getElem_toList,h4];rfl
  refine zQl be (by rw[s149,h2]) (by rw[xZM,h2];simp) ho λw4 cc fX qm=>?_
  refine⟨c,h2,λi hi=>cl cc i,c,rfl,h2,h3,?_⟩
  have hpu:Pu w w3:=(aA.trans ay).andNew hf λi hi=>by have hi:i=w1.heap.size:=hi;omega
  exact hpu.andNew fX λi hi=>by have hi:i=w.heap.size:=hi;omega
 refine zQD 256 (λk t w'=>t=(k:Int)/\yXX w' w1.heap.size (sg1 k)/\Fr (·=w1.heap.size) w2 w') ⟨rfl,g0,Fr.refl _ _⟩ ?_
 rintro k J t w3 hk ⟨ht,hg,hf⟩ hJ
 obtain rfl:t=(k:Int):=ht
 refine Br.of (λd=>?_) (λd=>?_)
 ·have aI:k<256:=by have:=zQs d;omega
  refine⟨by omega,by omega,by omega,by omega,?_⟩
  rw[i32_in (by omega) (by omega)]
  refine hg.st (j:=256+k) (by omega) (k:Int) _ (ad1 _ 1 k) λw4 yh fX=>?_
  rw[zQa (by omega) (by omega)]
  refine Br.of (λd1=>?_) (λd1=>?_)
  ·have d1:128<=k:=by have:=zQs d1;omega
   refine⟨by omega,by omega,by omega,by omega,yh.st (j:=0+k) (by omega) (-1) _ (ad1 _ 0 k) λw5 py ci=>⟨by omega,by omega,by omega,by omega,py.st (j:=512+k) (by omega) (-1) _ (ad1 _ 2 k) λw6 wA jB=>?_⟩⟩
   refine hJ _ _ aI ⟨by omega,wA.ext λi hi=>?_,((hf.trans fX λ_ h _=>h).trans ci λ_ h _=>h).trans jB λ_ h _=>h⟩
   simp only[sg1]
   repeat' split
   all_goals first|(simp only[decide_eq_decide];omega)|(rw[eq_comm,decide_eq_true_iff];omega)|(rw[eq_comm];simp;omega)|(simp;omega)
  ·have d1:¬128<=k:=by have:=zQj d1;omega
   refine⟨by omega,by omega,by omega,by omega,yh.st (j:=0+k) (by omega) (k:Int) _ (ad1 _ 0 k) λw5 py ci=>⟨by omega,by omega,by omega,by omega,py.st (j:=512+k) (by omega) (k:Int) _ (ad1 _ 2 k) λw6 wA jB=>?_⟩⟩
   refine hJ _ _ aI ⟨by omega,wA.ext λi hi=>?_,((hf.trans fX λ_ h _=>h).trans ci λ_ h _=>h).trans jB λ_ h _=>h⟩
   simp only[sg1]
   repeat' split
   all_goals first|(simp only[decide_eq_decide];omega)|(rw[eq_comm,decide_eq_true_iff];omega)|(rw[eq_comm];simp;omega)|(simp;omega)
 have aI:k=256:=by have:=zQj d;omega
 subst aI
 clear hJ J d
 refine zQD 48 (λk t w'=>t=((128+k:Nat):Int)/\yXX w' w1.heap.size (sg2 (128+k))/\Fr (·=w1.heap.size) w2 w') ⟨rfl,hg.ext λi hi=>by unfold sg1 sg2;exact zZj (by omega),hf⟩ ?_
 rintro k J t w4 hk ⟨ht,hg,hf⟩ hJ
 obtain rfl:t=((128+k:Nat):Int):=ht
 refine Br.of (λd=>?_) (λd=>?_)
 ·have aI:k<48:=by have:=zQs d;omega
  refine⟨by omega,by omega,by omega,by omega,?_⟩
  rw[zQa (by omega) (by omega),i32_in (n:=((128+k:Nat):Int) - 128) (by omega) (by omega),i32_in (by omega) (by omega),zQa (by omega) (by omega)]
  refine hg.st (j:=512+(128+k)) (by omega) _ _ (ad1 _ 2 (128+k)) λw5 py ci=>hJ _ _ aI ⟨by omega,py.ext λi hi=>?_,hf.trans ci λ_ h _=>h⟩
  simp only[sg2]
  split
  ·rw[decide_eq_decide];omega
  ·simp only[decide_eq_decide];omega
 have aI:k=48:=by have:=zQj d;omega
 subst aI
 clear hJ J d
 refine zQD 16 (λk t w'=>t=((224+k:Nat):Int)/\yXX w' w1.heap.size (sg3 (224+k))/\Fr (·=w1.heap.size) w2 w') ⟨rfl,hg.ext λi hi=>by unfold sg3 sg2;exact zZj (by omega),hf⟩ ?_
 rintro k J t w5 hk ⟨ht,hg,hf⟩ hJ
 obtain rfl:t=((224+k:Nat):Int):=ht
 refine Br.of (λd=>?_) (λd=>?_)
 ·have aI:k<16:=by have:=zQs d;omega
  refine⟨by omega,by omega,by omega,by omega,?_⟩
  rw[zQa (by omega) (by omega),i32_in (n:=((224+k:Nat):Int) - 224) (by omega) (by omega),i32_in (by omega) (by omega),zQa (by omega) (by omega)]
  refine hg.st (j:=512+(224+k)) (by omega) _ _ (ad1 _ 2 (224+k)) λw5 py ci=>hJ _ _ aI ⟨by omega,py.ext λi hi=>?_,hf.trans ci λ_ h _=>h⟩
  simp only[sg3]
  split
  ·rw[decide_eq_decide];omega
  ·simp only[decide_eq_decide];omega
 have aI:k=16:=by have:=zQj d;omega
 subst aI
 exact fin hg hf
theorem u149:prog.underlying 213=some (.array 3 212):=by kernel_rfl
theorem yYp{cs:Array Value}{p:Nat}(hp:p<3)(w:World):(Instr.index 213 (.agg cs) (.int .i64 (p:Int))).run prog w=.ok (.agg (cs.extract (p * 256) (p * 256+256))) w:=by
 have h1:(part 212 cs (p * 256)).run prog w=.ok (.agg (cs.extract (p * 256) (p * 256+256))) w:=by
  unfold part
  have a:(isAgg 212).run prog w=.ok true w:=Tryz.isAgg212 w
  have s:(sizeOf 212).run prog w=.ok 256 w:=Tryz.sizeOf212 w
  simp only[Sem.run_bind,a,Result.andThen_ok,if_true,s,Sem.run_pure]
 have s:(sizeOf 212).run prog w=.ok 256 w:=Tryz.sizeOf212 w
 unfold Instr.index
 simp only[asIntOf,Sem.run_bind,Sem.run_pure,Result.andThen_ok,zQg u149]
 have h0:(0:Int)<=(p:Int)/\(p:Int)<((3:Nat):Int):=by omega
 rw[if_pos h0]
 simp only[Sem.run_bind,s,Result.andThen_ok,zZW,h1]
theorem xZR {w:World} {r:Nat} {s:ByteArray} (p:Int) (hb:w.heap[r]?=some (.cells #[.string s] 9)):Calls prog 195 #[.int .i64 p,.slice (some ⟨r,0,none⟩) 1 1] w λe w'=>e=.returned (.int .i64 (if 2048<s.size then 3 else if zQY p then 0 else 1))/\Pu w w':=by
 refine yJC _ ⟨some ⟨r,0,none⟩,1,1⟩ w _ ?_
 refine zQD 1 (λk t w'=>t=(k:Int)/\w'=w/\(0<k->¬2048<s.size)) ⟨rfl,rfl,λh=>by omega⟩ ?_
 rintro k J t w2 hk ⟨ht,hw,hs⟩ hJ
 obtain rfl:t=(k:Int):=ht
 obtain rfl:w2=w:=hw
 refine Br.of (λd=>?_) (λd=>?_)
 ·have cw:k=0:=by have:=zQs d;dsimp only at this;omega
  subst cw
  refine⟨_,rfl,by omega,by dsimp only;omega,s,cl hb 0,Br.of (λd1=>?_) (λd1=>?_)⟩
  ·exact⟨by rw[if_pos (show 2048<s.size by have:=zQs d1;omega)],Pu.refl _⟩
  ·rw[zQa (by omega) (by omega)]
   exact hJ _ _ (by omega) ⟨rfl,rfl,λ_=>by have:=zQj d1;omega⟩
 ·have tP:k=1:=by have:=zQj d;dsimp only at this;omega
  subst tP
  rw[if_neg (hs (by omega))]
  refine Br.of (λd1=>?_) (λd1=>Br.of (λd2=>?_) (λd2=>?_))
  ·have:=zQs d1;exact⟨by rw[if_neg];simp[zQY];omega,Pu.refl _⟩
  ·have:=zQs d2;exact⟨by rw[if_neg];simp[zQY];omega,Pu.refl _⟩
  ·have:=zQj d1;have:=zQj d2;exact⟨by rw[if_pos];simp[zQY];omega,Pu.refl _⟩
theorem on_sg{b:UInt8}{p:Nat}(hp:p<3):sg3 240 (p * 256+b.toNat)=!onB b (p:Int):=by
 have:=b.toNat_lt
 unfold sg3 onB
 rcases(by omega:p=0∨p=1∨p=2)with rfl|rfl|rfl
 ·rw[if_pos (by rfl),←decide_not];exact zZj (by omega)
 ·rw[if_neg (by omega),if_pos (by rfl)];simp;omega
 ·rw[if_neg (by omega),if_neg (by omega),←Bool.decide_and,←Bool.decide_or,←decide_not];exact zZj (by omega)
theorem u9:prog.underlying 9=some .string:=by kernel_rfl
theorem u37:prog.underlying 22=some (.slice 5):=by kernel_rfl
theorem u5:prog.underlying 5=some (.int .u8):=by kernel_rfl
theorem s148:zXn prog 212=256:=by kernel_rfl
theorem zc148':zc prog 212=Array.replicate 256 (.int .i32 0):=by kernel_rfl
theorem zc148:(zc prog 212).size=256:=by rw[zc148'];simp
theorem yXl(s:ByteArray)(hs:s.size<=140737488355328)(p:Int)(w:World):Calls prog 152 #[.string s,.int .i64 p] w λe w'=>
  e=.returned (.tuple #[.bool (decide (s.size<=2048) && zQY p && zZ0 s.data.toList p),.int .i64 (if 2048<s.size then 3 else if zQY p then 0 else 1)])/\Pu w w':=by
 refine yJP _ _ w _ ?_
 refine alB λw1 aA aD=>(xZR p aD).mono ?_
 rintro e w2 ⟨rfl,ay⟩
 refine⟨_,rfl,Br.of (λd=>?_) (λd=>?_)⟩
 ·have d:=zQG d
  refine⟨?_,aA.trans ay⟩
  have:(decide (s.size<=2048) && zQY p)=false:=by
   by_cases h:2048<s.size
   ·rw[decide_eq_false (by omega)];rfl
   ·cases h2:zQY p
    ·simp
    ·rw[if_neg h,h2]at d;exact absurd rfl d
  rw[this];rfl
 have d:=zQ4 d
 have mB:¬2048<s.size:=λh=>by rw[if_pos h]at d;omega
 have hpg:zQY p=true:=by
  cases h2:zQY p
  ·rw[if_neg mB,h2]at d;simp at d
  ·rfl
 obtain⟨q,rfl,hq⟩:∃q:Nat,p=q/\q<3:=⟨p.toNat,by simp[zQY]at hpg;omega,by simp[zQY]at hpg;omega⟩
 refine(xJx w2).mono ?_
 rintro e w3 ⟨c,rfl,hc,hn,aC⟩
 refine⟨c,hc,rfl,c.extract (q * 256) (q * 256+256),by simp[hc];omega,w3,yYp hq w3,?_⟩
 have hat:∀i,i<256->∃n:Int,(c.extract (q * 256) (q * 256+256))[i]?=some (.int .i32 n)/\decide (n<0)=sg3 240 (q * 256+i):=λi hi=>by
  obtain⟨n,h1,h2⟩:=hn (q * 256+i) (by omega)
  refine⟨n,?_,h2⟩
  rw[Array.getElem?_extract,if_pos (by omega)]
  exact h1
 refine alB λw4 aK cc=>zQl cc (by rw[s148];simp[hc];omega) (by rw[zc148];simp[hc];omega) ?_ λw5 bq ci j9=>?_
 ·rw[List.all_eq_true]
  intro v hv
  obtain⟨i,hi,rfl⟩:=List.getElem_of_mem hv
  have hi':i<(c.extract (q * 256) (q * 256+256)).size:=by rw[←Array.length_toList];exact hi
  obtain⟨n,h4,_⟩:=hat i (by rw[Array.size_extract]at hi';omega)
  rw[Array.getElem?_eq_getElem hi']at h4
  have h4:=Option.some.inj h4
  rw[Array.getElem_toList,h4];rfl
 have ck:Pu w3 w5:=aK.andNew ci λi hi=>by have hi:i=w3.heap.size:=hi;omega
 obtain⟨l,w6,hcv,cW,hl⟩:=yJv (P:=prog) u9 u37 u5 s (by omega) w5
 have iB:=cW.blk bq
 have hlen:=hl.len
 have yi:s.data.toList.length=s.size:=by simp
 have e2:(decide (s.size<=2048) && zQY (q:Int) && zZ0 s.data.toList (q:Int))=zZ0 s.data.toList (q:Int):=by rw[hpg,decide_eq_true (by omega)];rfl
 refine⟨l,w6,hcv,zQD s.data.toList.length (λk t w'=>t=(k:Int)/\w'=w6/\zZ0 (s.data.toList.take k) (q:Int)=true) ⟨rfl,rfl,rfl⟩ ?_⟩
 rintro k J t w7 hk ⟨ht,zV,htx⟩ hJ
 obtain rfl:t=(k:Int):=ht
 obtain rfl:w7=w6:=zV
 have hpu:Pu w w7:=(((aA.trans ay).trans aC).trans ck).trans cW
 refine Br.of (λd1=>?_) (λd1=>?_)
 ·have aI:k<s.data.toList.length:=by have:=zQs d1;omega
  obtain⟨b,hb⟩:=zXf aI
  obtain⟨a,ha,hi,hcell⟩:=hl.u8 hb
  have hbl:=b.toNat_lt
  obtain⟨n,tX,qA⟩:=hat b.toNat (by omega)
  refine⟨a,ha,by omega,by omega,_,by simpa using hcell,by omega,by omega,n,?_,?_⟩
  ·rw[zQn,zQ8 iB,Nat.zero_add,zZW,Nat.mul_one];exact tX
  rw[qA,on_sg hq]
  refine Br.of (λd2=>⟨?_,hpu⟩) (λd2=>?_)
  ·have d2:onB b (q:Int)=false:=by simpa using d2
   have:zZ0 s.data.toList (q:Int)=false:=by
    unfold zZ0;rw[List.all_eq_false];exact⟨b,List.mem_of_getElem? hb,by rw[d2];simp⟩
   rw[e2,this,if_neg mB,hpg];rfl
  ·have d2:onB b (q:Int)=true:=by simpa using d2
   rw[zQa (by omega) (by omega)]
   exact hJ _ _ aI ⟨by omega,rfl,by unfold zZ0 at *;rw[zYb _ hb,htx,d2];rfl⟩
 ·have aI:k=s.data.toList.length:=by have:=zQj d1;omega
  rw[aI,List.take_length]at htx
  exact⟨by rw[e2,htx,if_neg mB,hpg];rfl,hpu⟩
theorem yVN(s:ByteArray)(hs:s.size<=2048){p:Int}(hpg:zQY p=true)(w:World):Calls prog 120 #[.string s,.int .i64 p] w λe w'=>e=.returned (.bool (zZ0 s.data.toList p))/\Pu w w':=by
 refine yJK _ _ w _ ((yXl s (by omega) p w).mono ?_)
 rintro e w2 ⟨rfl,hp⟩
 have e1:(decide (s.size<=2048) && zQY p && zZ0 s.data.toList p)=zZ0 s.data.toList p:=by rw[hpg,decide_eq_true hs];rfl
 refine⟨_,_,rfl,?_⟩
 rw[e1,if_neg (by omega),hpg]
 exact Br.of (λd=>⟨by rw[d];rfl,hp⟩) (λd=>⟨by rw[d],hp⟩)
end Go.Proofs.YtaeecpjhfmcliaaGreatDoor
/- Table: what a value becomes in a field. No condition. -/
namespace Go.Proofs.YtaeecpjhfmcliaaGreatDoor
open Go.Sh Go.RowKit Tryz
theorem yWc(ts:Array TypeId)(r:TypeId)(k:IntKind)(a b:Int)(w:World):(Builtin.min_ ts r #[.int k a,.int k b]).run prog w=.ok (.int k (min a b)) w:=by
 rw[run_min_int2];congr 2;omega
theorem zWu{v:Val}(h:zXk v=0):v.s.size<=2048/\okN v.kind v.n=true/\(v.kind=4∨v.s.size=0):=by
 rw[zJr]at h
 by_cases h1:2048<v.s.size
 ·rw[if_pos h1]at h;omega
 ·rw[if_neg h1]at h
  cases h2:zZE v
  ·rw[h2]at h;simp at h
  ·unfold zZE at h2;simp at h2;exact⟨by omega,h2.1,h2.2.imp id λe=>by rw[e];rfl⟩
def yVI(n w:Int):List UInt8:=if w<(zZS n).length then List.replicate w.toNat 42 else List.replicate (w.toNat - (zZS n).length) 32 ++ zZS n
theorem str_c{n w:Int}(h1:-1000000000000000<=n/\n<=1000000000000000)(h2:1<=w/\w<=254)(W:World):Calls prog 121 #[.int .i64 n,.int .i64 w] W λe W'=>e=.returned (.tuple #[.string (bs (yVI n w)),.int .i64 0])/\Pu W W':=by
 refine yJu _ _ W _ ((yKD n W).mono ?_)
 rintro e W1 ⟨rfl,aA⟩
 refine⟨_,rfl,?_⟩
 rw[decide_eq_true h1.1,decide_eq_true h1.2]
 refine Br.f rfl (Br.of (λd=>absurd (zQs d) (by omega)) (λ_=>Br.of (λd=>absurd (zQs d) (by omega)) (λ_=>(dec_c (by omega) (by omega) W1).mono ?_)))
 rintro e W2 ⟨rfl,ay⟩
 have es:=zQ2 (zZS n)
 refine⟨_,rfl,Br.of (λd=>?_) (λd=>?_)⟩
 ·have d:=zQs d
  have e1:w=((w.toNat:Nat):Int):=by omega
  rw[show(Value.int .i64 w)=.int .i64 ((w.toNat:Nat):Int)by rw[←e1]]
  refine(zJ8 42 w.toNat (by omega) W2).mono ?_
  rintro e W3 ⟨rfl,aC⟩
  exact⟨_,rfl,by unfold yVI;rw[if_pos (by omega)],(aA.trans ay).trans aC⟩
 ·have d:=zQj d
  rw[yWq,zQa (by omega) (by omega)]
  have e1:w - (((bs (zZS n)).size:Nat):Int)=((w.toNat - (zZS n).length:Nat):Int):=by omega
  rw[e1]
  refine(zJ8 32 _ (by omega) W2).mono ?_
  rintro e W3 ⟨rfl,aC⟩
  refine⟨_,rfl,?_,?_,(aA.trans ay).trans aC⟩
  ·rw[zQ2,zQ2];simp only[List.length_replicate];omega
  ·rw[zK2];unfold yVI;rw[if_neg (by omega)]
theorem yY9(s:ByteArray)(b:UInt8)(w:World):Calls prog 122 #[.string s,.string ⟨#[b]⟩] w λe w'=>e=.returned (.bool (decide (s.data.toList.head?=some b)))/\Pu w w':=
 (Any.strings_HasPrefix Tryz.lays99 s ⟨#[b]⟩ w).mono λe w' ⟨h1,h2⟩=>⟨by
  rw[h1];congr 2
  show Lib.hasPrefix s.data.toList [b]=_
  unfold Lib.hasPrefix
  cases s.data.toList with
  | nil=>rfl
  | cons a l=>
   rw[List.isPrefixOf_cons_cons,List.isPrefixOf_nil_left,Bool.and_true]
   by_cases h:b=a
   ·simp[h]
   ·simp[h,Ne.symm h],h2 ▸ Pu.refl _⟩
theorem yWs(n:Int):∃b l,zZS n=b :: l/\b ≠ 42:=by
 by_cases h:n<0
 ·exact⟨45,_,zYt h,by decide⟩
 ·have hn:zZS n=zZq n.natAbs:=by unfold zZS;rw[if_neg h]
  cases hl:zZq n.natAbs with
  | nil=>have:=zYd n.natAbs;rw[hl]at this;simp at this
  | cons b l=>
   refine⟨b,l,by rw[hn,hl],λe=>?_⟩
   have:=zJ9 n.natAbs b (by rw[hl];simp)
   rw[e]at this;simp at this
theorem yKH{n w:Int}(h:1<=w):decide ((yVI n w).head?=some 42)=decide (w<(zZS n).length):=by
 obtain⟨b,l,hd,hb⟩:=yWs n
 unfold yVI
 by_cases h1:w<(zZS n).length
 ·rw[if_pos h1,decide_eq_true h1]
  obtain⟨k,hk⟩:∃k,w.toNat=k+1:=⟨w.toNat - 1,by omega⟩
  rw[hk,List.replicate_succ];simp
 ·rw[if_neg h1,decide_eq_false h1]
  cases hm:w.toNat - (zZS n).length with
  | zero=>rw[hd];simp[hb]
  | succ m=>simp[List.replicate_succ]
theorem retV {w:World} {r:Nat} {c:Array Value} (v:Val) (k:Int) {R:Rt} (hb:w.heap[r]?=some (.cells c 73)) (hc:c.size=3) (hR:∀w',Fr (·=r) w w'->R (.returned (.tuple #[zKL v,.int .i64 k])) w') :
  stA prog 73 (⟨r,0,none⟩:Addr) #[.int .i64 v.kind,.int .i64 v.n,.string v.s] w λw'=>∃n0:Int,w'.cell? ((⟨r,0,none⟩:Addr).add 0)=some (.int .i64 n0)/\∃n1:Int,w'.cell? ((⟨r,0,none⟩:Addr).add 1)=some (.int .i64 n1)/\
   ∃s2:ByteArray,w'.cell? ((⟨r,0,none⟩:Addr).add 2)=some (.string s2)/\R (.returned (.tuple #[.agg #[.int .i64 n0,.int .i64 n1,.string s2],.int .i64 k])) w':=
 zQl hb s25.symm (by rw[hc];rfl) rfl λw' hb' hf _=>⟨_,cl hb' 0,_,cl hb' 1,_,cl hb' 2,hR w' hf⟩
theorem zKD {f:Fld} {p:Int} {v:Val} (h:(zQo f && zQY p)=false):zJC f p v=(noV,1):=by unfold zJC;rw[h];rfl
theorem zWh {f:Fld} {p:Int} {v:Val} (h:(zQo f && zQY p)=true) (h2:zXk v ≠ 0):zJC f p v=(noV,zXk v):=by unfold zJC;rw[h,if_pos rfl,if_pos h2]
theorem zKb {f:Fld} {p:Int} {v:Val} (h:(zQo f && zQY p)=true) (h2:zXk v=0):zJC f p v=zZk f p v:=by unfold zJC;rw[h,if_pos rfl,if_neg (by omega)]
theorem zYv{f:Fld}(h:zQo f=true)(hk:f.kind=4):1<=f.width/\f.width<=254:=by
 unfold zQo zVw at h;rw[hk]at h;simp at h;exact h.2
theorem xZL{f:Fld}(h:zQo f=true)(hk:f.kind=2):1<=f.width/\f.width<=15:=by
 unfold zQo zVw at h;rw[hk]at h;simp at h;exact h.2
theorem yYn(l:List UInt8)(w:Int)(n:Nat)(hn:l.length=n)(hw:0<=w):l.take (min (n:Int) w).toNat=l.take w.toNat:=by
 by_cases h:(n:Int)<=w
 ·rw[show(min (n:Int) w).toNat=n by omega,List.take_of_length_le (by omega),List.take_of_length_le (by omega)]
 ·rw[show min (n:Int) w=w by omega]
theorem yXT(l:List UInt8):(zZ4 l).length<=l.length:=by
 unfold zZ4
 have h:=List.IsSuffix.length_le (List.dropWhile_suffix (· == (32:UInt8)) (l:=l.reverse))
 simpa using h
theorem fit_c(f:Fld)(p:Int)(v:Val)(hs:f.name.size<=140737488355328)(w:World):Calls prog 83 #[yQA f,.int .i64 p,zKL v] w λe w'=>
  e=.returned (.tuple #[zKL (zJC f p v).1,.int .i64 (zJC f p v).2])/\Pu w w':=by
 refine yKT _ _ _ _ _ _ _ _ w _ ?_
 refine alB λw1 aA aD=>alB λw2 ay aL=>alB λw3 aC be=>?_
 have z1:w1.heap.size<=w2.heap.size:=ay.size
 have z0:w.heap.size<=w1.heap.size:=aA.size
 have l1:w.heap.size<w1.heap.size:=zQ5 aD
 have l2:w1.heap.size<w2.heap.size:=zQ5 aL
 have cd:Pu w w3:=(aA.trans ay).trans aC
 -- a value and a code are handed back
 have out:∀{wz:World} (v':Val) (k:Int) {c:Array Value},Pu w wz->wz.heap[w2.heap.size]?=some (.cells c 73)->c.size=3->zJC f p v=(v',k)->
   stA prog 73 (⟨w2.heap.size,0,none⟩:Addr) #[.int .i64 v'.kind,.int .i64 v'.n,.string v'.s] wz λw'=>∃n0:Int,w'.cell? ((⟨w2.heap.size,0,none⟩:Addr).add 0)=some (.int .i64 n0)/\∃n1:Int,w'.cell? ((⟨w2.heap.size,0,none⟩:Addr).add 1)=some (.int .i64 n1)/\
    ∃s2:ByteArray,w'.cell? ((⟨w2.heap.size,0,none⟩:Addr).add 2)=some (.string s2)/\(Ending.returned (.tuple #[.agg #[.int .i64 n0,.int .i64 n1,.string s2],.int .i64 k])=.returned (.tuple #[zKL (zJC f p v).1,.int .i64 (zJC f p v).2])/\Pu w w'):=λ{wz} v' k {c} h1 h2 h3 h4=>
  retV (R:=λe w'=>e=.returned (.tuple #[zKL (zJC f p v).1,.int .i64 (zJC f p v).2])/\Pu w w') v' k h2 h3 λw' hf=>⟨by rw[h4],h1.andNew hf λi hi=>by have hi:i=w2.heap.size:=hi;omega⟩
 have b1:∀{wz},Pu w3 wz->wz.heap[w.heap.size]?=some (.cells #[.string f.name,.int .i64 f.kind,.int .i64 f.width,.bool f.null] 129):=λh=>h.blk (aC.blk (ay.blk aD))
 have b2:∀{wz},Pu w3 wz->wz.heap[w1.heap.size]?=some (.cells #[.int .i64 v.kind,.int .i64 v.n,.string v.s] 73):=λh=>h.blk (aC.blk aL)
 have b3:∀{wz},Pu w3 wz->wz.heap[w2.heap.size]?=some (.cells #[.int .i64 0,.int .i64 0,.string ⟨#[]⟩] 73):=λh=>h.blk be
 have q0:=b1 (Pu.refl w3)
 refine⟨_,cl q0 0,_,cl q0 1,_,cl q0 2,_,cl q0 3,(yQ7 f hs w3).mono ?_⟩
 rintro e w4 ⟨rfl,aK⟩
 refine⟨_,rfl,Br.of (λd=>out noV 1 (cd.trans aK) (b3 aK) rfl (zKD (by simp at d;simp[d]))) (λd=>(yZb p w4).mono ?_)⟩
 have hfB:zQo f=true:=by simpa using d
 rintro e w5 ⟨rfl,ba⟩
 have ck:=aK.trans ba
 refine⟨_,rfl,Br.of (λd=>out noV 1 (cd.trans ck) (b3 ck) rfl (zKD (by simp at d;simp[d]))) (λd=>?_)⟩
 have hpB:zQY p=true:=by simpa using d
 have hB:(zQo f && zQY p)=true:=by rw[hfB,hpB];rfl
 refine⟨_,cl (b2 ck) 0,_,cl (b2 ck) 1,_,cl (b2 ck) 2,(yVu v w5).mono ?_⟩
 rintro e w6 ⟨rfl,cW⟩
 have dX:=ck.trans cW
 have fp:=cd.trans dX
 refine⟨_,rfl,Br.of (λd=>out noV (zXk v) fp (b3 dX) rfl (zWh hB (zQG d))) (λd=>?_)⟩
 have hv:=zQ4 d
 obtain⟨hvs,hvn,zW⟩:=zWu hv
 have hF:=zKb (f:=f) (p:=p) hB hv
 refine⟨_,cl0 (b2 dX),Br.of (λd0=>⟨_,cl (b1 dX) 3,Br.of (λd1=>out noV 7 fp (b3 dX) rfl ?_) (λd1=>⟨_,cl (b2 dX) 0,_,cl (b2 dX) 1,_,cl (b2 dX) 2,out v 0 fp (b3 dX) rfl ?_⟩)⟩) (λd0=>?_)⟩
 ·rw[hF];unfold zZk;rw[if_pos (zXr d0),show f.null=false by simpa using d1];rfl
 ·rw[hF];unfold zZk;rw[if_pos (zXr d0),show f.null=true by simpa using d1];rfl
 have d0:=zQ9 d0
 refine zQe λw7 dK zX=>⟨λu=>Pu w7 u,Pu.refl _,v.kind,λu hu=>cl0 (b2 ((dX.trans dK).trans hu)),f.name,λu hu=>cl (b1 ((dX.trans dK).trans hu)) 0,f.kind,λu hu=>cl (b1 ((dX.trans dK).trans hu)) 1,f.width,λu hu=>cl (b1 ((dX.trans dK).trans hu)) 2,f.null,λu hu=>cl (b1 ((dX.trans dK).trans hu)) 3,(xJk f w7).mono ?_⟩
 rintro e w8 ⟨rfl,bM⟩
 have dM:=(dX.trans dK).trans bM
 have fS:=cd.trans dM
 refine⟨_,_,_,rfl,bM,Br.of (λd1=>out noV 6 fS (b3 dM) rfl ?_) (λd1=>⟨_,cl (b1 dM) 1,?_⟩)⟩
 ·rw[hF];unfold zZk;rw[if_neg d0,if_pos (zQG d1)]
 have d1:=zQ4 d1
 have kK:zJC f p v=if f.kind=4 then(if zZ0 (zZ4 (v.s.data.toList.take f.width.toNat)) p then(⟨4,0,bs (zZ4 (v.s.data.toList.take f.width.toNat))⟩,0)else(noV,10))else if zXi f p v then(v,0)else(noV,10):=by
  rw[hF];unfold zZk;rw[if_neg d0,if_neg (by rw[d1];simp)]
 have ky:¬zXk v ≠ 0:=by omega
 -- what a value is that stays
 have stay:∀{wz:World},Pu w3 wz->zJC f p v=(v,0)->∃n0:Int,wz.cell? ((⟨w1.heap.size,0,none⟩:Addr).add 0)=some (.int .i64 n0)/\∃n1:Int,wz.cell? ((⟨w1.heap.size,0,none⟩:Addr).add 1)=some (.int .i64 n1)/\∃s2:ByteArray,wz.cell? ((⟨w1.heap.size,0,none⟩:Addr).add 2)=some (.string s2)/\
   stA prog 73 (⟨w2.heap.size,0,none⟩:Addr) #[.int .i64 n0,.int .i64 n1,.string s2] wz λw'=>∃n0:Int,w'.cell? ((⟨w2.heap.size,0,none⟩:Addr).add 0)=some (.int .i64 n0)/\∃n1:Int,w'.cell? ((⟨w2.heap.size,0,none⟩:Addr).add 1)=some (.int .i64 n1)/\
    ∃s2:ByteArray,w'.cell? ((⟨w2.heap.size,0,none⟩:Addr).add 2)=some (.string s2)/\(Ending.returned (.tuple #[.agg #[.int .i64 n0,.int .i64 n1,.string s2],.int .i64 0])=.returned (.tuple #[zKL (zJC f p v).1,.int .i64 (zJC f p v).2])/\Pu w w'):=λ{wz} h h2=>
  ⟨_,cl (b2 h) 0,_,cl (b2 h) 1,_,cl (b2 h) 2,out v 0 (cd.trans h) (b3 h) rfl h2⟩
 refine Br.of (λd2=>?_) (λd2=>Br.of (λd3=>?_) (λd3=>Br.of (λd4=>?_) (λd4=>?_)))
 ·have d2:=zXr d2
  obtain⟨wl,wh⟩:=zYv hfB d2
  rw[if_pos d2]at kK
  refine⟨_,cl (b2 dM) 2,_,cl (b2 dM) 2,_,cl (b1 dM) 2,_,w8,yWc _ _ _ _ _ _,by omega,by omega,by omega,(zW2 _ (by have:=zQ3 v.s 0 (min (v.s.size:Int) f.width).toNat;have:=zQv (v.s.extract 0 (min (v.s.size:Int) f.width).toNat);simp at *;omega) w8).mono ?_⟩
  rintro e w9 ⟨rfl,dY⟩
  have et:(v.s.extract 0 (min (v.s.size:Int) f.width).toNat).data.toList=v.s.data.toList.take f.width.toNat:=by
   rw[zQ3,List.drop_zero];exact yYn _ _ _ (by simp) (by omega)
  rw[et]
  have lm:=dM.trans dY
  have hkind:v.kind=4:=by rw[d1];unfold zZh;rw[if_neg (by omega)];exact d2
  have lA:v.n=0:=by rw[hkind]at hvn;simpa[okN] using hvn
  have hbl:(bs (zZ4 (v.s.data.toList.take f.width.toNat))).size<=2048:=by
   rw[zQ2];have:=yXT (v.s.data.toList.take f.width.toNat);have:=List.length_take_le f.width.toNat v.s.data.toList;have:=List.length_take_le' f.width.toNat v.s.data.toList;rw[zQv]at this;omega
  generalize hg:zZ4 (v.s.data.toList.take f.width.toNat)=B at *
  refine⟨_,rfl,?_⟩
  rw[zWV,zQn,Nat.zero_add]
  refine zQw (b2 lm) (show 2<3 by omega) λaM pz dZ=>?_
  have jO:Fr (·=w1.heap.size) w9 aM:=by rw[pz];exact Fr.cell w9 _ 2 _
  have ka:aM.heap[w1.heap.size]?=some (.cells #[.int .i64 v.kind,.int .i64 v.n,.string (bs B)] 73):=dZ
  have oY:Pu w aM:=(cd.trans lm).andNew jO λi hi=>by have hi:i=w1.heap.size:=hi;omega
  have kb:=jO.blk (b3 lm) (show ¬w2.heap.size=w1.heap.size by omega)
  refine⟨_,cl ka 2,(yVN _ hbl hpB aM).mono ?_⟩
  rintro e aQ ⟨rfl,jP⟩
  rw[zQF]
  refine⟨_,rfl,Br.of (λd3=>out noV 10 (oY.trans jP) (jP.blk kb) rfl ?_) (λd3=>⟨_,cl (jP.blk ka) 0,_,cl (jP.blk ka) 1,_,cl (jP.blk ka) 2,?_⟩)⟩
  ·rw[kK,show zZ0 B p=false by simpa using d3];rfl
  ·rw[hkind,lA]
   exact out ⟨4,0,bs B⟩ 0 (oY.trans jP) (jP.blk kb) rfl (by rw[kK,show zZ0 B p=true by simpa using d3];rfl)
 ·have d2:=zQ9 d2
  have d3:=zXr d3
  obtain⟨wl,wh⟩:=xZL hfB d3
  have hkind:v.kind=2:=by rw[d1];unfold zZh;rw[if_neg (by omega)];exact d3
  have hn:-1000000000000000<=v.n/\v.n<=1000000000000000:=by rw[hkind]at hvn;simpa[okN] using hvn
  have hfit:zXi f p v=decide (((zZS v.n).length:Int)<=f.width):=by
   unfold zXi;rw[if_neg ky,if_neg d0,if_neg (by omega),if_neg (by rw[hkind,d3];simp),if_pos d3]
  rw[if_neg d2,hfit]at kK
  refine⟨_,cl (b2 dM) 1,_,cl (b1 dM) 2,(str_c hn ⟨wl,by omega⟩ w8).mono ?_⟩
  rintro e w9 ⟨rfl,dY⟩
  have lm:=dM.trans dY
  refine⟨_,_,rfl,Br.of (λd4=>absurd rfl (zQG d4)) (λ_=>(yY9 _ 42 w9).mono ?_)⟩
  rintro e aM ⟨rfl,fT⟩
  have ln:=lm.trans fT
  refine⟨_,rfl,?_⟩
  rw[zQF,yKH wl]
  refine Br.of (λd4=>out noV 10 (cd.trans ln) (b3 ln) rfl ?_) (λd4=>stay ln ?_)
  ·rw[kK,decide_eq_false (by have:=zQs d4;omega)];rfl
  ·rw[kK,decide_eq_true (by have:=zQj d4;omega)];rfl
 ·have d2:=zQ9 d2
  have d4:=zXr d4
  have hkind:v.kind=2:=by rw[d1];unfold zZh;rw[if_pos d4]
  have hfit:zXi f p v=zYo v.n:=by
   unfold zXi;rw[if_neg ky,if_neg d0,if_pos d4,hkind];rfl
  rw[if_neg d2,hfit]at kK
  refine⟨_,cl (b2 dM) 1,Br.of (λd5=>out noV 10 fS (b3 dM) rfl ?_) (λd5=>⟨_,cl (b2 dM) 1,Br.of (λd6=>out noV 10 fS (b3 dM) rfl ?_) (λd6=>stay dM ?_)⟩)⟩
  ·rw[kK,show zYo v.n=false by unfold zYo;rw[decide_eq_false (by have:=zQs d5;omega)];rfl];rfl
  ·rw[kK,show zYo v.n=false by unfold zYo;rw[decide_eq_false (show ¬v.n<=99999999 by have:=zQs d6;omega)];simp];rfl
  ·rw[kK,show zYo v.n=true by unfold zYo;rw[decide_eq_true (show 0<=v.n by have:=zQj d5;omega),decide_eq_true (show v.n<=99999999 by have:=zQj d6;omega)];rfl];rfl
 ·have d2:=zQ9 d2
  have d3:=zQ9 d3
  have d4:=zQ9 d4
  have hfit:zXi f p v=true:=by
   unfold zXi;rw[if_neg ky,if_neg d0,if_neg d4,if_neg (by rw[d1];unfold zZh;rw[if_neg d4];simp),if_neg d3,if_neg d2]
  rw[if_neg d2,hfit]at kK
  exact stay dM kK
end Go.Proofs.YtaeecpjhfmcliaaGreatDoor
/- Table: what a value becomes in a field, the reference. No condition. -/
namespace Go.Proofs.YtaeecpjhfmcliaaGreatDoor
open Go.Sh Go.RowKit Tryz
theorem yWt(l:List UInt8)(s:ByteArray):bs l=s ↔ l=s.data.toList:=by
 constructor
 ·intro h;rw[←h]
 ·intro h;rw[h]
end Go.Proofs.YtaeecpjhfmcliaaGreatDoor
/- Table: rows of fields: which are right, and how wide they are. No condition. -/
namespace Go.Proofs.YtaeecpjhfmcliaaGreatDoor
open Go.Sh Go.RowKit Tryz
theorem zVO{α:Type}[DecidableEq α]{l:List α}{x:α}:(l ++ [x]).Nodup ↔ l.Nodup/\x ∉ l:=by
 rw[List.nodup_append]
 constructor
 ·rintro⟨h1,_,h3⟩;exact⟨h1,λhx=>h3 x hx x (by simp) rfl⟩
 ·rintro⟨h1,h2⟩;exact⟨h1,by simp,λa ha b hb e=>by simp at hb;subst hb;subst e;exact h2 ha⟩
theorem zY6(l:List Fld):(zXb l:Int)<=l.length+1:=by
 unfold zXb
 have:=List.length_filter_le (·.null) l
 omega
theorem yZQ {l:List Fld} {k:Nat} {f:Fld} (h:l[k]?=some f):((l.take (k+1)).filter (·.null)).length=((l.take k).filter (·.null)).length+(if f.null then 1 else 0):=by
 rw[zQK h,List.filter_append,List.length_append]
 cases hx:f.null <;> simp[hx]
theorem zWy {l:List Fld} {k:Nat} {f:Fld} (h:l[k]?=some f):((l.take (k+1)).filter (·.null)).length=if f.null then((l.take k).filter (·.null)).length+1 else((l.take k).filter (·.null)).length:=by
 rw[yZQ h];cases f.null <;> rfl
theorem zJV{w:World}{s:SV}{l:List Fld}(h:zXV w s l):Calls prog 203 #[.slice s.a s.len s.cap] w λe w'=>e=.returned (.int .i64 (zXb l:Nat))/\Pu w w':=by
 refine yJA _ w _ ?_
 have hlen:=h.len
 have hlim:=h.lim
 refine zQD l.length (λk t w'=>t.2=(k:Int)/\t.1=(((l.take k).filter (·.null)).length:Nat)/\Pu w w') ⟨rfl,rfl,Pu.refl _⟩ ?_
 rintro k J ⟨t1,t2⟩ w2 hk ⟨wB,pA,hp⟩ hJ
 obtain rfl:t2=(k:Int):=wB
 obtain rfl:t1=(((l.take k).filter (·.null)).length:Nat):=pA
 have hle:=List.length_filter_le (·.null) (l.take k)
 have wC:=List.length_take_le k l
 dsimp only
 refine Br.of (λd=>?_) (λd=>?_)
 ·have aI:k<l.length:=by have:=zQs d;omega
  obtain⟨f,hf⟩:=zXf aI
  obtain⟨a,ha,hi,_,_,_,c0,c1,c2,c3⟩:=zVj (h.pu hp) hf
  refine⟨a,ha,by omega,by omega,_,c0,_,c1,_,c2,_,c3,zYj rfl s23.symm rfl λw4 aK qm cc=>⟨_,cl cc 3,?_⟩⟩
  have e:=zWy hf
  rw[zQa (n:=(k:Int)+1) (by omega) (by omega)]
  refine Br.of (λd1=>hJ _ _ aI ⟨by dsimp only;omega,?_,hp.trans aK⟩) (λd1=>hJ _ _ aI ⟨by dsimp only;omega,?_,hp.trans aK⟩)
  ·rw[if_pos d1]at e;dsimp only;rw[e,zQa (by omega) (by omega)];omega
  ·rw[if_neg (by rw[d1];simp)]at e;dsimp only;rw[e]
 ·have aI:k=l.length:=by have:=zQj d;omega
  subst aI
  rw[List.take_length]at *
  refine⟨rfl,by omega,?_,hp⟩
  rw[zQa (n:=((l.filter (·.null)).length:Int)+7) (by omega) (by omega),Int.tdiv_eq_ediv_of_nonneg (by omega),zQa (by omega) (by omega)]
  unfold zXb;congr 2
def WOk(l:List Fld):Prop:=∀f ∈ l,0<=f.width/\f.width<=254
theorem zXm{f:Fld}(h:zQo f=true):1<=f.width/\f.width<=254:=by
 unfold zQo zVw at h
 simp only[Bool.and_eq_true]at h
 have h:=h.2
 split at h
 ·simp at h;omega
 ·split at h
  ·simp at h;omega
  ·split at h
   ·simp at h;omega
   ·split at h
    ·simp at h;omega
    ·split at h
     ·simp at h;omega
     ·simp at h
theorem WOk.of{l:List Fld}(h:l.all zQo=true):WOk l:=λf hf=>by have:=zXm (List.all_eq_true.1 h f hf);omega
theorem zWo {l:List Fld} {k:Nat} {f:Fld} (h:l[k]?=some f):((l.take (k+1)).map (·.width)).sum=((l.take k).map (·.width)).sum+f.width:=by
 rw[zQK h,List.map_append,List.sum_append];simp
theorem zZQ{l:List Fld}(h:WOk l):0<=(l.map (·.width)).sum/\(l.map (·.width)).sum<=254 * l.length:=by
 induction l with
 | nil=>simp
 | cons f l ih=>
  have h1:=h f (by simp)
  have h2:=ih λg hg=>h g (by simp[hg])
  simp only[List.map_cons,List.sum_cons,List.length_cons];omega
theorem WOk.take{l:List Fld}(h:WOk l)(k:Nat):WOk (l.take k):=λf hf=>h f (List.mem_of_mem_take hf)
theorem zVZ{w:World}{s:SV}{l:List Fld}(h:zXV w s l)(hw:WOk l):Calls prog 161 #[.slice s.a s.len s.cap] w λe w'=>e=.returned (.int .i64 (zXE l))/\Pu w w':=by
 refine yJm _ w _ ((zJV h).mono ?_)
 rintro e w1 ⟨rfl,aA⟩
 have hlen:=h.len
 have hlim:=h.lim
 have hn:=zY6 l
 refine⟨_,rfl,?_⟩
 rw[zQa (by omega) (by omega)]
 refine zQD l.length (λk t w'=>t.2=(k:Int)/\t.1=1+((zXb l:Nat):Int)+((l.take k).map (·.width)).sum/\Pu w w') ⟨rfl,by simp,aA⟩ ?_
 rintro k J ⟨t1,t2⟩ w2 hk ⟨wB,pA,hp⟩ hJ
 obtain rfl:t2=(k:Int):=wB
 obtain rfl:t1=1+((zXb l:Nat):Int)+((l.take k).map (·.width)).sum:=pA
 have hs:=zZQ (hw.take k)
 have wC:=List.length_take_le k l
 dsimp only
 refine Br.of (λd=>?_) (λd=>?_)
 ·have aI:k<l.length:=by have:=zQs d;omega
  obtain⟨f,hf⟩:=zXf aI
  have hwf:=hw f (List.mem_of_getElem? hf)
  obtain⟨a,ha,hi,_,_,_,c0,c1,c2,c3⟩:=zVj (h.pu hp) hf
  refine⟨a,ha,by omega,by omega,_,c0,_,c1,_,c2,_,c3,zYj rfl s23.symm rfl λw4 aK qm cc=>⟨_,cl cc 2,?_⟩⟩
  rw[zQa (n:=(k:Int)+1) (by omega) (by omega),zQa (by omega) (by omega)]
  refine hJ _ _ aI ⟨by dsimp only;omega,?_,hp.trans aK⟩
  dsimp only;rw[zWo hf];omega
 ·have aI:k=l.length:=by have:=zQj d;omega
  subst aI
  rw[List.take_length]
  exact⟨rfl,hp⟩
def yZG(l:List Fld)(g:Nat)(cap:Array Value)(p:Fld->Bool)(w0:World):Prop:=zQt prog g=true/\∀f ∈ l,∀w,Pu w0 w->Calls prog g (#[yQA f] ++ cap) w λe w'=>e=.returned (.bool (p f))/\Pu w w'
theorem zYY {p:Fld->Bool} {l:List Fld} {k:Nat} (h:∀f ∈ l.take k,p f=false) {f:Fld} (hf:l[k]?=some f) (hp:p f=true):l.findIdx? p=some k:=by
 have hk:k<l.length:=(List.getElem?_eq_some_iff.1 hf).1
 rw[List.findIdx?_eq_some_iff_getElem]
 refine⟨hk,?_,λj hj=>?_⟩
 ·rw[List.getElem?_eq_getElem hk]at hf;rw[Option.some.inj hf];exact hp
 ·have:=h l[j] (by rw[List.mem_take_iff_getElem];exact⟨j,by omega,rfl⟩)
  simpa using this
theorem zWB{w:World}{s:SV}{l:List Fld}(h:zXV w s l){g:Nat}{cap:Array Value}{p:Fld->Bool}(hg:yZG l g cap p w):Calls prog 113 #[.slice s.a s.len s.cap,.func (.func g) #[] cap] w
  λe w'=>e=.returned (.int .i64 (match l.findIdx? p with|some k=>(k:Int)|none=>-1))/\Pu w w':=by
 refine yJy _ _ w _ ?_
 have hlen:=h.len
 have hlim:=h.lim
 refine zQD l.length (λk t w'=>t=(k:Int)/\(∀f ∈ l.take k,p f=false)/\Pu w w') ⟨rfl,by simp,Pu.refl _⟩ ?_
 rintro k J t w2 hk ⟨ht,hno,hp⟩ hJ
 obtain rfl:t=(k:Int):=ht
 refine Br.of (λd=>?_) (λd=>?_)
 ·have aI:k<l.length:=by have:=zQs d;omega
  obtain⟨f,hf⟩:=zXf aI
  obtain⟨a,ha,hi,_,_,_,c0,c1,c2,c3⟩:=zVj (h.pu hp) hf
  refine⟨a,ha,by omega,by omega,_,c0,_,c1,_,c2,_,c3,hg.1,?_⟩
  have e1:((#[]:Array Value).toList ++ (([yQA f]:List Value) ++ cap.toList)).toArray=#[yQA f] ++ cap:=by
   apply Array.ext';simp
  rw[e1]
  refine(hg.2 f (List.mem_of_getElem? hf) w2 hp).mono ?_
  rintro e w3 ⟨rfl,aC⟩
  refine⟨_,rfl,Br.of (λd1=>⟨by rw[zYY hno hf d1],hp.trans aC⟩) (λd1=>?_)⟩
  rw[zQa (by omega) (by omega)]
  refine hJ _ _ aI ⟨by omega,λf' hf'=>?_,hp.trans aC⟩
  rw[zQK hf,List.mem_append,List.mem_singleton]at hf'
  rcases hf' with hf'|rfl
  ·exact hno f' hf'
  ·exact d1
 ·have aI:k=l.length:=by have:=zQj d;omega
  subst aI
  rw[List.take_length]at hno
  have:l.findIdx? p=none:=by rw[List.findIdx?_eq_none_iff];exact λx hx=>by rw[hno x hx]
  exact⟨by rw[this],hp⟩
theorem zVq{w:World}{s:SV}{l:List Fld}(h:zXV w s l){g:Nat}{cap:Array Value}{p:Fld->Bool}(hg:yZG l g cap p w):Calls prog 178 #[.slice s.a s.len s.cap,.func (.func g) #[] cap] w
  λe w'=>e=.returned (.bool (l.any p))/\Pu w w':=by
 refine yKi _ _ w _ ((zWB h hg).mono ?_)
 rintro e w2 ⟨rfl,hp⟩
 refine⟨_,rfl,?_,hp⟩
 cases hx:l.findIdx? p with
 | none=>
  rw[List.findIdx?_eq_none_iff]at hx
  have:l.any p=false:=by rw[List.any_eq_false];exact λx hx'=>by rw[hx x hx'];simp
  rw[this];rfl
 | some k=>
  rw[List.findIdx?_eq_some_iff_getElem]at hx
  obtain⟨h1,h2,_⟩:=hx
  have:l.any p=true:=List.any_eq_true.2 ⟨_,List.getElem_mem h1,h2⟩
  rw[this]
  dsimp only
  rw[decide_eq_true (by omega)]
theorem yJk(f:Fld)(hs:f.name.size<=140737488355328)(w:World):Calls prog 179 #[yQA f] w λe w'=>e=.returned (.bool (!zQo f))/\Pu w w':=by
 refine yJl _ _ _ _ w _ (alB λw1 aA aD=>⟨_,cl aD 0,_,cl aD 1,_,cl aD 2,_,cl aD 3,(yQ7 f hs w1).mono ?_⟩)
 rintro e w2 ⟨rfl,ay⟩
 exact⟨_,rfl,rfl,aA.trans ay⟩
theorem u88:prog.underlying 206=some (.map 9 4):=by kernel_rfl
abbrev strK(s:ByteArray):Value:=.string s
abbrev xZG(b:Bool):Value:=.bool b
theorem keysS:yZl prog 9 strK:=yYu (by kernel_rfl)
theorem z4(w:World):(zeroValue 4).run prog w=.ok (.bool false) w:=Tryz.zeroValue4 w
def zYr(l:List Fld):List (ByteArray × Bool):=l.map λf=>(f.name,true)
theorem zY4(l:List Fld):(zYr l).map Prod.fst=l.map (·.name):=by simp[zYr]
noncomputable instance memDec (x : ByteArray) (l : List ByteArray) : Decidable (x ∈ l) := Classical.propDecidable _
theorem yW4(l:List Fld)(x:ByteArray):(AL.get (zYr l) x).elim (.bool false) xZG=.bool (decide (x ∈ l.map (·.name))):=by
 by_cases h:x ∈ l.map (·.name)
 ·rw[decide_eq_true h]
  cases hg:AL.get (zYr l) x with
  | none=>rw[AL.get_none,zY4]at hg;exact absurd h hg
  | some v=>
   have:=AL.get_mem hg
   simp only[zYr,List.mem_map]at this
   obtain⟨f,_,he⟩:=this
   cases he;rfl
 ·rw[decide_eq_false h,(AL.get_none).2 (by rw[zY4];exact h)];rfl
theorem zYL:zQZ []=1:=by unfold zQZ;rw[if_pos (.inl rfl)]
theorem yKr{l:List Fld}(h:l.all zQo=false):zQZ l=1:=by unfold zQZ;rw[if_pos (.inr h)]
theorem yJ5 {l:List Fld} (h0:l ≠ []) (h:l.all zQo=true) (h2:¬(l.map (·.name)).Nodup):zQZ l=5:=by unfold zQZ;rw[if_neg (by simp[h0,h]),if_pos h2]
theorem yKz {l:List Fld} (h0:l ≠ []) (h:l.all zQo=true) (h2:(l.map (·.name)).Nodup):zQZ l=if 16<l.length∨2000<zXE l then 3 else 0:=by unfold zQZ;rw[if_neg (by simp[h0,h]),if_neg (by simp[h2])]
theorem zVC {l:List Fld} {k:Nat} {f:Fld} (h:l[k]?=some f):(l.take (k+1)).map (·.name)=(l.take k).map (·.name) ++ [f.name]:=by
 rw[zQK h,List.map_append];rfl
theorem zY5 {l:List Fld} {k:Nat} (h:¬((l.take k).map (·.name)).Nodup):¬(l.map (·.name)).Nodup:=λhn=>h (by
 rw[List.map_take];exact hn.sublist (List.take_sublist _ _))
theorem zKk{w:World}{s:SV}{l:List Fld}(h:zXV w s l)(hl:Lim.ok l):Calls prog 141 #[.slice s.a s.len s.cap] w λe w'=>e=.returned (.int .i64 (zQZ l))/\Pu w w':=by
 refine yJ4 _ w _ ?_
 have hlen:=h.len
 have hlim:=h.lim
 have nm:∀f ∈ l,f.name.size<=140737488355328:=λf hf=>hl f hf
 refine Br.of (λd=>?_) (λd=>?_)
 ·have:l=[]:=List.length_eq_zero_iff.1 (by have:=zXr d;omega)
  subst this;exact⟨by rw[zYL],Pu.refl _⟩
 have h0:l ≠ []:=λe=>by subst e;exact zQ9 d (by rw[hlen];rfl)
 have tells:yZG l 179 #[] (λf=>!zQo f) w:=⟨by kernel_rfl,λf hf w2 _=>yJk f (nm f hf) w2⟩
 refine(zVq h tells).mono ?_
 rintro e w1 ⟨rfl,aA⟩
 have hany:l.any (λf=>!zQo f)=!l.all zQo:=by rw[List.all_eq_not_any_not];simp
 refine⟨_,rfl,?_⟩
 rw[hany]
 refine Br.of (λd1=>⟨by rw[yKr (by simpa using d1)],aA⟩) (λd1=>?_)
 have hall:l.all zQo=true:=by simpa using d1
 refine zWD λw2 kL=>?_
 have ay:Pu w1 w2:=by rw[kL];exact Pu.alloc w1 _
 have tQ:zXl w2 strK xZG w1.heap.size ([]:List (ByteArray × Bool)):=by rw[kL];exact zXl.new w1 _ _
 have z1:=aA.size
 refine zQD l.length (λk t w'=>t=(k:Int)/\zXl w' strK xZG w1.heap.size (zYr (l.take k))/\((l.take k).map (·.name)).Nodup/\Pu w w') ⟨rfl,tQ,by simp,aA.trans ay⟩ ?_
 rintro k J t w3 hk ⟨ht,hm,hnd,hp⟩ hJ
 obtain rfl:t=(k:Int):=ht
 refine Br.of (λd2=>?_) (λd2=>?_)
 ·have aI:k<l.length:=by have:=zQs d2;omega
  obtain⟨f,hf⟩:=zXf aI
  obtain⟨a,ha,hi,_,_,_,c0,c1,c2,c3⟩:=zVj (h.pu hp) hf
  refine⟨a,ha,by omega,by omega,_,c0,_,c1,_,c2,_,c3,zYj rfl s23.symm rfl λw4 aK qm cc=>⟨_,cl0 cc,decide (f.name ∈ (l.take k).map (·.name)),w4,?_,?_⟩⟩
  ·have:=(hm.pu aK).look keysS u88 (z4 w4) f.name false
   rw[yW4]at this;exact this
  refine Br.of (λd3=>⟨?_,hp.trans aK⟩) (λd3=>⟨_,cl0 cc,?_⟩)
  ·rw[yJ5 h0 hall (zY5 (k:=k+1) (by rw[zVC hf,zVO];exact λh=>h.2 (zQs d3)))]
  ·obtain⟨w5,e5,h5,f5,_⟩:=(hm.pu aK).upd keysS u88 f.name true
   refine⟨w5,e5,?_⟩
   rw[zQa (by omega) (by omega)]
   have hput:AL.put (zYr (l.take k)) f.name true=zYr (l.take (k+1)):=by
    rw[AL.put_new ((AL.get_none).2 (by rw[zY4];exact zQj d3))]
    simp only[zYr]
    rw[zQK hf,List.map_append];rfl
   rw[hput]at h5
   refine hJ _ _ aI ⟨by omega,h5,by rw[zVC hf,zVO];exact⟨hnd,zQj d3⟩,(hp.trans aK).andNew f5 λi hi=>by have hi:i=w1.heap.size:=hi;omega⟩
 ·have aI:k=l.length:=by have:=zQj d2;omega
  subst aI
  rw[List.take_length]at hnd
  have he:=yKz h0 hall hnd
  refine Br.of (λd3=>⟨by rw[he,if_pos (.inl (by have:=zQs d3;omega))],hp⟩) (λd3=>(zVZ (h.pu hp) (WOk.of hall)).mono ?_)
  rintro e w4 ⟨rfl,aK⟩
  refine⟨_,rfl,Br.of (λd4=>⟨by rw[he,if_pos (.inr (zQs d4))],hp.trans aK⟩) (λd4=>⟨by rw[he,if_neg (by have:=zQj d4;have:=zQj d3;omega)],hp.trans aK⟩)⟩
end Go.Proofs.YtaeecpjhfmcliaaGreatDoor
