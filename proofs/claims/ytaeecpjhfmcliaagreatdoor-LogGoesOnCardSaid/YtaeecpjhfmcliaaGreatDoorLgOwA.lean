import Derived.Test.YtaeecpjhfmcliaaGreatDoorShNine
import Derived.Test.YtaeecpjhfmcliaaGreatDoorShSeventeen
import Derived.Test.YtaeecpjhfmcliaaGreatDoorLgPrA
import Derived.Test.YtaeecpjhfmcliaaGreatDoorShTwentyTwo
import Derived.Test.YtaeecpjhfmcliaaGreatDoorLtShelf
import Derived.Test.YtaeecpjhfmcliaaGreatDoorShThirteen
/- Table: data, and what is computed on it, in plain words. No condition. -/
set_option linter.unusedVariables false
set_option linter.unusedSimpArgs false
namespace Go.Proofs.YtaeecpjhfmcliaaGreatDoor
open Go.Sh Go.RowKit Tryz
theorem zXU {α:Type} {l:List α} {k:Nat} {x:α} (h:l[k]?=some x):l.drop k=x :: l.drop (k+1):=by
 obtain⟨h1,h2⟩:=List.getElem?_eq_some_iff.1 h
 rw[List.drop_eq_getElem_cons h1,h2]
theorem zQD {α:Type} {l:List α} {k:Nat} {x:α} (h:l[k]?=some x):l.take (k+1)=l.take k ++ [x]:=by
 rw[List.take_add_one,h];rfl
theorem zQM{α:Type}{l:List α}{k:Nat}(h:k<l.length):∃x,l[k]?=some x:=⟨_,List.getElem?_eq_getElem h⟩
theorem yYf(a:Addr):a.add 0=a:=by simp[Addr.add]
theorem zX8(s t:ByteArray):(s.toList == t.toList)=decide (s=t):=by rw[←beq_toListBytes,zZB]
theorem zQU{s t:ByteArray}(h:s.data.toList=t.data.toList):s=t:=by
 obtain⟨⟨a⟩⟩:=s;obtain⟨⟨b⟩⟩:=t;simp at h;rw[h]
theorem zQ3(s:ByteArray):s.data.toList.length=s.size:=by simp
abbrev bs(l:List UInt8):ByteArray:=⟨l.toArray⟩
theorem zQQ(l:List UInt8):(bs l).data.toList=l:=by simp[bs]
theorem yJt(s:ByteArray):bs s.data.toList=s:=by obtain⟨⟨a⟩⟩:=s;rfl
theorem zQ9(l:List UInt8):(bs l).size=l.length:=by simp[bs,ByteArray.size]
structure Fld where
 name:ByteArray
 kind:Int
 width:Int
 null:Bool
deriving DecidableEq, Inhabited
structure Val where
 kind:Int
 n:Int
 s:ByteArray
deriving DecidableEq, Inhabited
structure Rec where
 gone:Bool
 v:List Val
deriving DecidableEq, Inhabited
structure Tbl where
 page:Int
 fields:List Fld
 recs:List Rec
deriving DecidableEq, Inhabited
def zZR(n:Int):Prop:=-9223372036854775808<=n/\n<=9223372036854775807
instance:Enc Bool where
 sz:=1
 rd _ vs b:=vs=[.bool b]
 len h:=by rw[h];rfl
 pu _ h:=h
abbrev zYl(f:Fld):List Value:=[.string f.name,.int .i64 f.kind,.int .i64 f.width,.bool f.null]
abbrev zVN(v:Val):List Value:=[.int .i64 v.kind,.int .i64 v.n,.string v.s]
instance:Enc Fld where
 sz:=4
 rd _ vs f:=vs=zYl f/\zZR f.kind/\zZR f.width
 len h:=by rw[h.1];rfl
 pu _ h:=h
instance:Lim Fld:=⟨λf=>Lim.ok f.name⟩
instance:Enc Val where
 sz:=3
 rd _ vs v:=vs=zVN v/\zZR v.kind/\zZR v.n
 len h:=by rw[h.1];rfl
 pu _ h:=h
instance:Lim Val:=⟨λv=>Lim.ok v.s⟩
instance:Enc Rec where
 sz:=2
 rd w vs r:=∃s:SV,vs=[.bool r.gone,.slice s.a s.len s.cap]/\zX3 w s r.v
 len h:=by obtain⟨s,rfl,_⟩:=h;rfl
 pu hp h:=let ⟨s,h1,h2⟩:=h;⟨s,h1,h2.pu hp⟩
instance:Lim Rec:=⟨λr=>Lim.ok r.v⟩
structure zX2(w:World)(t:Tbl)(f r:SV):Prop where
 page:zZR t.page
 fields:zX3 w f t.fields
 recs:zX3 w r t.recs
theorem zX2.pu{w w':World}{t:Tbl}{f r:SV}(h:zX2 w t f r)(hp:Pu w w'):zX2 w' t f r:=⟨h.page,h.fields.pu hp,h.recs.pu hp⟩
instance:Enc Tbl where
 sz:=3
 rd w vs t:=∃f r:SV,vs=[.int .i64 t.page,.slice f.a f.len f.cap,.slice r.a r.len r.cap]/\zX2 w t f r
 len h:=by obtain⟨f,r,rfl,_⟩:=h;rfl
 pu hp h:=let ⟨f,r,h1,h2⟩:=h;⟨f,r,h1,h2.pu hp⟩
instance:Lim Tbl:=⟨λt=>Lim.ok t.fields/\Lim.ok t.recs⟩
theorem zJl {w:World} {s:SV} {l:List Fld} (h:zX3 w s l) {i:Nat} {f:Fld} (hx:l[i]?=some f):∃a,s.a=some a/\i<s.len/\zZR f.kind/\zZR f.width/\
  w.cell? (a.add (i * 4))=some (.string f.name)/\w.cell? ((a.add (i * 4)).add 0)=some (.string f.name)/\w.cell? ((a.add (i * 4)).add 1)=some (.int .i64 f.kind)/\w.cell? ((a.add (i * 4)).add 2)=some (.int .i64 f.width)/\w.cell? ((a.add (i * 4)).add 3)=some (.bool f.null):=by
 obtain⟨a,ha,vs,⟨rfl,h1⟩,h2⟩:=h.get i f hx
 have hi:i<l.length:=(List.getElem?_eq_some_iff.1 hx).1
 have h2:zJv w (a.add (i * 4)) (zYl f):=h2
 exact⟨a,ha,by rw[h.len];exact hi,h1.1,h1.2,by rw[←yYf (a.add _)];exact h2 0 _ rfl,h2 0 _ rfl,h2 1 _ rfl,h2 2 _ rfl,h2 3 _ rfl⟩
theorem yWl {w:World} {s:SV} {l:List Val} (h:zX3 w s l) {i:Nat} {v:Val} (hx:l[i]?=some v):∃a,s.a=some a/\i<s.len/\zZR v.kind/\zZR v.n/\
  w.cell? ((a.add (i * 3)).add 0)=some (.int .i64 v.kind)/\w.cell? ((a.add (i * 3)).add 1)=some (.int .i64 v.n)/\w.cell? ((a.add (i * 3)).add 2)=some (.string v.s):=by
 obtain⟨a,ha,vs,⟨rfl,h1⟩,h2⟩:=h.get i v hx
 have hi:i<l.length:=(List.getElem?_eq_some_iff.1 hx).1
 have h2:zJv w (a.add (i * 3)) (zVN v):=h2
 exact⟨a,ha,by rw[h.len];exact hi,h1.1,h1.2,h2 0 _ rfl,h2 1 _ rfl,h2 2 _ rfl⟩
theorem zWk {w:World} {s:SV} {l:List Rec} (h:zX3 w s l) {i:Nat} {r:Rec} (hx:l[i]?=some r):∃a t,s.a=some a/\i<s.len/\zX3 w t r.v/\
  w.cell? ((a.add (i * 2)).add 0)=some (.bool r.gone)/\w.cell? ((a.add (i * 2)).add 1)=some (.slice t.a t.len t.cap):=by
 obtain⟨a,ha,vs,⟨t,rfl,h1⟩,h2⟩:=h.get i r hx
 have hi:i<l.length:=(List.getElem?_eq_some_iff.1 hx).1
 have h2:zJv w (a.add (i * 2)) [.bool r.gone,.slice t.a t.len t.cap]:=h2
 exact⟨a,t,ha,by rw[h.len];exact hi,h1,h2 0 _ rfl,h2 1 _ rfl⟩
def noV:Val:=⟨0,0,⟨#[]⟩⟩
def zVd(b:UInt8):Bool:=decide (65<=b.toNat) && decide (b.toNat<=90)
def zZm(b:UInt8):Bool:=decide (48<=b.toNat) && decide (b.toNat<=57)
def zZ3(s:ByteArray):Bool:=decide (1<=s.size) && decide (s.size<=10) && s.data.toList.all (λb=>zVd b || zZm b || decide (b.toNat=95)) && (s.data.toList.take 1).all zVd
def zWI(k w:Int):Bool:=if k=1 then decide (w=1)else if k=2 then decide (1<=w) && decide (w<=15)else if k=3 then decide (w=8)else if k=4 then decide (1<=w) && decide (w<=254)else if k=5 then decide (w=8)else false
def zQo(f:Fld):Bool:=zZ3 f.name && zWI f.kind f.width
def zQX(p:Int):Bool:=decide (0<=p) && decide (p<=2)
def onB(b:UInt8)(p:Int):Bool:=if p=0 then decide (b.toNat<128)else if p=1 then true else decide (b.toNat<176) || (decide (224<=b.toNat) && decide (b.toNat<240))
def zXN(l:List UInt8)(p:Int):Bool:=l.all λb=>onB b p
def zXo(l:List Fld):Nat:=((l.filter (·.null)).length+7) / 8
def zXK(l:List Fld):Int:=1+(zXo l:Int)+(l.map (·.width)).sum
def zQV(l:List Fld):Int:=if l=[]∨l.all zQo=false then 1 else if ¬(l.map (·.name)).Nodup then 5 else if 16<l.length∨2000<zXK l then 3 else 0
def okN(k n:Int):Bool:=if k=0 then decide (n=0)else if k=1 then decide (n=0) || decide (n=1)else if k=2 then decide (-1000000000000000<=n) && decide (n<=1000000000000000)else if k=3 then decide (0<=n) && decide (n<=3652059)else if k=4 then decide (n=0)else false
def zXk(v:Val):Int:=if 2048<v.s.size then 3 else if okN v.kind v.n && (decide (v.kind=4) || decide (v.s.size=0))then 0 else 1
def zZQ(n:Nat):List UInt8:=if h:n<10 then [UInt8.ofNat (48+n)]else zZQ (n / 10) ++ [UInt8.ofNat (48+n % 10)]
 termination_by n
 decreasing_by omega
def zJq(n:Int):List UInt8:=if n<0 then 45 :: zZQ n.natAbs else zZQ n.natAbs
def zZ4(l:List UInt8):List UInt8:=(l.reverse.dropWhile (· == 32)).reverse
def zVR(n:Int):Bool:=decide (0<=n) && decide (n<=99999999)
def zQR(f:Fld)(p:Int)(v:Val):Bool:=
 if zXk v ≠ 0 then false else if v.kind=0 then f.null else if f.kind=5 then decide (v.kind=2) && zVR v.n else if v.kind ≠ f.kind then false
 else if f.kind=2 then decide (((zJq v.n).length:Int)<=f.width)else if f.kind=4 then decide ((v.s.size:Int)<=f.width) && decide (zZ4 v.s.data.toList=v.s.data.toList) && zXN v.s.data.toList p else true
def zXr(f:Fld):Val:=if f.kind=5 then⟨2,0,⟨#[]⟩⟩else⟨f.kind,0,⟨#[]⟩⟩
def zQS(f:Fld)(p:Int)(v:Val):Val × Int:=
 if v.kind=0 then(if f.null then(v,0)else(noV,7))else if v.kind ≠ (zXr f).kind then(noV,6)
 else if f.kind=4 then(if zXN (zZ4 (v.s.data.toList.take f.width.toNat)) p then(⟨4,0,bs (zZ4 (v.s.data.toList.take f.width.toNat))⟩,0)else(noV,10))
 else if zQR f p v then(v,0)else(noV,10)
def zZT(f:Fld)(p:Int)(v:Val):Val × Int:=if zQo f && zQX p then(if zXk v ≠ 0 then(noV,zXk v)else zQS f p v)else(noV,1)
def zQ0(l:List Fld)(p:Int)(r:Rec):Int:=if r.v.length ≠ l.length then 10 else if (l.zip r.v).all (λx=>zQR x.1 p x.2)then 0 else 1
def zXw(l:List Fld)(p:Int):List Rec->Int
 | []=>0
 | r :: rs=>if zQ0 l p r ≠ 0 then zQ0 l p r else zXw l p rs
def zQf(t:Tbl):Int:=if zQX t.page then(if zQV t.fields ≠ 0 then zQV t.fields else if 300<t.recs.length then 3 else zXw t.fields t.page t.recs)else 1
end Go.Proofs.YtaeecpjhfmcliaaGreatDoor
/- Table: values, names, fields, pages: which are right. No condition. -/
set_option maxRecDepth 100000
namespace Go.Proofs.YtaeecpjhfmcliaaGreatDoor
open Go.Sh Go.RowKit Tryz
theorem zZf(s:ByteArray):(s.toList == (⟨#[]⟩:ByteArray).toList)=decide (s.size=0):=by
 rw[←beq_toListBytes,zZB]
 by_cases h:s.size=0
 ·have:s=⟨#[]⟩:=by
   obtain⟨⟨l⟩⟩:=s
   cases l with
   | nil=>rfl
   | cons a l=>simp[ByteArray.size]at h
  simp[this]
  rfl
 ·have:s ≠ ⟨#[]⟩:=λe=>h (by rw[e];rfl)
  simp[this,h]
theorem alB {w:World} {c:Array Value} {e:TypeId} {K:Nat->World->Prop} (h:∀w1,Pu w w1->w1.heap[w.heap.size]?=some (.cells c e)->K w.heap.size w1):alE (.cells c e) w K:=
 h _ (Pu.alloc w _) (zZt w _)
theorem cl {w:World} {r:Nat} {c:Array Value} {e:TypeId} {f:Nat × Nat} (h:w.heap[r]?=some (.cells c e f)) (o:Nat):w.cell? ((⟨r,0,none⟩:Addr).add o)=c[o]?:=by rw[zQr,zQI h,Nat.zero_add]
theorem cl0 {w:World} {r:Nat} {c:Array Value} {e:TypeId} {f:Nat × Nat} (h:w.heap[r]?=some (.cells c e f)):w.cell? (⟨r,0,none⟩:Addr)=c[0]?:=zQI h 0
theorem zQG {a b:Int} (h:(a == b)=true):a=b:=by simpa using h
theorem zQm {a b:Int} (h:(a == b)=false):a ≠ b:=by simpa using h
theorem zQ2 {a b:Int} (h:(a != b)=true):a ≠ b:=by simpa using h
theorem zQs {a b:Int} (h:(a != b)=false):a=b:=by simpa using h
theorem xQx(n:Int)(w:World):Calls prog 153 #[.int .i64 n] w λe w'=>e=.returned (.bool (decide (-1000000000000000<=n) && decide (n<=1000000000000000)))/\Pu w w':=by
 refine yKZ _ w _ (Br.of (λd=>?_) (λd=>?_))
 ·exact⟨by rw[decide_eq_true (show -1000000000000000<=n from zQk d)];rfl,Pu.refl w⟩
 ·exact⟨by rw[decide_eq_false (show ¬ -1000000000000000<=n from zQd d)];rfl,Pu.refl w⟩
theorem xY4(n:Int)(w:World):Calls prog 167 #[.int .i64 n] w λe w'=>e=.returned (.bool (decide (-1000000000000000<=n) && decide (n<=1000000000000000)))/\Pu w w':=by
 refine yVU _ w _ (Br.of (λd=>?_) (λd=>?_))
 ·exact⟨by rw[decide_eq_true (show -1000000000000000<=n from zQk d)];rfl,Pu.refl w⟩
 ·exact⟨by rw[decide_eq_false (show ¬ -1000000000000000<=n from zQd d)];rfl,Pu.refl w⟩
theorem yJi(n:Int)(w:World):Calls prog 191 #[.int .i64 n] w λe w'=>e=.returned (.bool (decide (0<=n) && decide (n<=3652059)))/\Pu w w':=by
 refine yVj _ w _ (Br.of (λd=>?_) (λd=>?_))
 ·exact⟨by rw[decide_eq_true (show 0<=n from zQk d)];rfl,Pu.refl w⟩
 ·exact⟨by rw[decide_eq_false (show ¬0<=n from zQd d)];rfl,Pu.refl w⟩
def zZw(v:Val):Bool:=okN v.kind v.n && (decide (v.kind=4) || decide (v.s.size=0))
theorem xZd(v:Val)(w:World):Calls prog 147 #[.agg #[.int .i64 v.kind,.int .i64 v.n,.string v.s]] w λe w'=>e=.returned (.bool (zZw v))/\Pu w w':=by
 refine yW9 _ _ _ w _ ?_
 refine alB λw1 hp hb=>?_
 have fin:(v.kind=4->v.n=0)->(v.kind ≠ 4->v.s.size=0)->yQz (λe w'=>e=.returned (.bool (zZw v))/\Pu w w') (some (⟨w.heap.size,0,none⟩:Addr)) v.kind [] w1:=λh4 hs=>by
  have e:zZw v=okN v.kind v.n:=by
   unfold zZw
   by_cases h:v.kind=4 <;> simp[h,hs]
  refine Br.of (λd=>?_) (λd=>Br.of (λd1=>?_) (λd1=>Br.of (λd2=>?_) (λd2=>Br.of (λd3=>?_) (λd3=>?_))))
  ·have d:=zQG d
   refine⟨_,cl hb 1,by rw[e,okN,if_pos d];rfl,hp⟩
  ·have d:=zQm d
   have d1:=zQG d1
   refine⟨_,cl hb 1,Br.of (λd2=>?_) (λd2=>⟨_,cl hb 1,?_,hp⟩)⟩
   ·have d2:=zQG d2
    refine⟨by rw[e,okN,if_neg d,if_pos d1,d2];rfl,hp⟩
   ·have d2:=zQm d2
    rw[e,okN,if_neg d,if_pos d1,decide_eq_false d2];rfl
  ·have d:=zQm d
   have d1:=zQm d1
   have d2:=zQG d2
   refine⟨_,cl hb 1,(xQx v.n w1).mono ?_⟩
   rintro e' w2 ⟨rfl,aq⟩
   exact⟨_,rfl,by rw[e,okN,if_neg d,if_neg d1,if_pos d2],hp.trans aq⟩
  ·have d:=zQm d
   have d1:=zQm d1
   have d2:=zQm d2
   have d3:=zQG d3
   refine⟨_,cl hb 1,(yJi v.n w1).mono ?_⟩
   rintro e' w2 ⟨rfl,aq⟩
   exact⟨_,rfl,by rw[e,okN,if_neg d,if_neg d1,if_neg d2,if_pos d3],hp.trans aq⟩
  ·have d:=zQm d
   have d1:=zQm d1
   have d2:=zQm d2
   have d3:=zQm d3
   refine⟨_,cl0 hb,?_,hp⟩
   rw[e,okN,if_neg d,if_neg d1,if_neg d2,if_neg d3]
   by_cases h:v.kind=4
   ·simp[h,h4 h]
   ·simp[h]
 have bad:zZw v=false->(Ending.returned (Value.bool false)=Ending.returned (Value.bool (zZw v))/\Pu w w1):=λh=>⟨by rw[h],hp⟩
 refine⟨_,cl0 hb,Br.of (λd=>⟨_,cl hb 2,?_⟩) (λd=>?_)⟩
 ·have d:=zQ2 d
  rw[zZf]
  refine Br.of (λd1=>?_) (λd1=>⟨_,cl0 hb,Br.of (λd2=>absurd (zQG d2) d) (λd2=>?_)⟩)
  ·exact bad (by simp at d1;simp[zZw,d,d1])
  ·exact⟨_,cl0 hb,fin (λh=>absurd h d) (λ_=>by simpa using d1)⟩
 ·have d:=zQs d
  refine⟨_,cl0 hb,Br.of (λd1=>⟨_,cl hb 1,?_⟩) (λd1=>absurd d (zQm d1))⟩
  refine Br.of (λd2=>?_) (λd2=>⟨_,cl0 hb,fin (λ_=>zQs d2) (λh=>absurd d h)⟩)
  exact bad (by have:=zQ2 d2;simp[zZw,okN,d,this])
theorem zZE(v:Val):zXk v=if 2048<v.s.size then 3 else if zZw v then 0 else 1:=rfl
theorem xQD(v:Val)(w:World):Calls prog 117 #[.agg #[.int .i64 v.kind,.int .i64 v.n,.string v.s]] w λe w'=>e=.returned (.int .i64 (zXk v))/\Pu w w':=by
 refine yV9 _ _ _ w _ ?_
 refine alB λw1 hp hb=>⟨v.s,cl hb 2,Br.of (λd=>?_) (λd=>?_)⟩
 ·have:2048<v.s.size:=by have:=zQk d;omega
  exact⟨by rw[zZE,if_pos this],hp⟩
 ·have hn:¬2048<v.s.size:=by have:=zQd d;omega
  refine⟨_,cl hb 0,_,cl hb 1,_,cl hb 2,(xZd v w1).mono ?_⟩
  rintro e w2 ⟨rfl,aq⟩
  refine⟨_,rfl,Br.of (λd1=>?_) (λd1=>?_)⟩
  ·have d1:zZw v=false:=by simpa using d1
   exact⟨by rw[zZE,if_neg hn,d1];rfl,hp.trans aq⟩
  ·have d1:zZw v=true:=by simpa using d1
   exact⟨by rw[zZE,if_neg hn,d1];rfl,hp.trans aq⟩
theorem yKi(v:Val)(w:World):Calls prog 132 #[.agg #[.int .i64 v.kind,.int .i64 v.n,.string v.s]] w λe w'=>e=.returned (.int .i64 (zXk v))/\Pu w w':=by
 refine yVz _ _ _ w _ ?_
 refine alB λw1 hp hb=>⟨v.s,cl hb 2,Br.of (λd=>?_) (λd=>?_)⟩
 ·have:2048<v.s.size:=by have:=zQk d;omega
  exact⟨by rw[zZE,if_pos this],hp⟩
 ·have hn:¬2048<v.s.size:=by have:=zQd d;omega
  have fin:∀{b:Bool} {w2:World},b=okN v.kind v.n->Pu w1 w2->zWc (λe w'=>e=.returned (.int .i64 (zXk v))/\Pu w w') (some (⟨w.heap.size,0,none⟩:Addr)) b [] w2:=λ{b w2} h aq=>by
   subst h
   have e1:zXk v=if zZw v then 0 else 1:=by rw[zZE,if_neg hn]
   have aM:=aq.blk hb
   refine Br.of (λd1=>?_) (λd1=>⟨_,cl0 aM,Br.of (λd2=>⟨_,cl aM 2,?_⟩) (λd2=>?_)⟩)
   ·exact⟨by rw[e1,zZw,show okN v.kind v.n=false by simpa using d1];rfl,hp.trans aq⟩
   ·have d1:okN v.kind v.n=true:=by simpa using d1
    have d2:=zQ2 d2
    rw[zZf]
    refine Br.of (λd3=>?_) (λd3=>?_)
    ·exact⟨by simp at d3;rw[e1];simp[zZw,d1,d2,d3],hp.trans aq⟩
    ·exact⟨by simp at d3;rw[e1];simp[zZw,d1,d2,d3],hp.trans aq⟩
   ·have d1:okN v.kind v.n=true:=by simpa using d1
    exact⟨by rw[e1,zZw,d1,zQs d2];rfl,hp.trans aq⟩
  refine⟨_,cl0 hb,Br.of (λd0=>⟨_,cl hb 1,fin ?_ (Pu.refl _)⟩) (λd0=>Br.of (λd1=>⟨_,cl hb 1,Br.of (λd2=>fin ?_ (Pu.refl _)) (λd2=>⟨_,cl hb 1,fin ?_ (Pu.refl _)⟩)⟩) (λd1=>Br.of (λd2=>⟨_,cl hb 1,(xY4 v.n w1).mono ?_⟩)
   (λd2=>Br.of (λd3=>⟨_,cl hb 1,Br.of (λd4=>⟨_,cl hb 1,fin ?_ (Pu.refl _)⟩) (λd4=>fin ?_ (Pu.refl _))⟩) (λd3=>Br.of (λd4=>⟨_,cl hb 1,fin ?_ (Pu.refl _)⟩) (λd4=>fin ?_ (Pu.refl _))))))⟩
  ·rw[okN,if_pos (zQG d0)];rfl
  ·rw[okN,if_neg (zQm d0),if_pos (zQG d1),zQG d2];rfl
  ·rw[okN,if_neg (zQm d0),if_pos (zQG d1),decide_eq_false (zQm d2)];rfl
  ·rintro e' w2 ⟨rfl,aq⟩
   exact⟨_,rfl,fin (by rw[okN,if_neg (zQm d0),if_neg (zQm d1),if_pos (zQG d2)]) aq⟩
  ·rw[okN,if_neg (zQm d0),if_neg (zQm d1),if_neg (zQm d2),if_pos (zQG d3),decide_eq_true (show 0<=v.n from zQk d4)];rfl
  ·rw[okN,if_neg (zQm d0),if_neg (zQm d1),if_neg (zQm d2),if_pos (zQG d3),decide_eq_false (show ¬0<=v.n from zQd d4)];rfl
  ·rw[okN,if_neg (zQm d0),if_neg (zQm d1),if_neg (zQm d2),if_neg (zQm d3),if_pos (zQG d4)];rfl
  ·rw[okN,if_neg (zQm d0),if_neg (zQm d1),if_neg (zQm d2),if_neg (zQm d3),if_neg (zQm d4)]
end Go.Proofs.YtaeecpjhfmcliaaGreatDoor
/- Table: names, fields and pages: which are right. No condition. -/
namespace Go.Proofs.YtaeecpjhfmcliaaGreatDoor
open Go.Sh Go.RowKit Tryz
structure K5 where
 letter:Int
 least:Int
 most:Int
 wr:Nat
 rd:Nat
def zYA(k:K5):Value:=.agg #[.int .u8 k.letter,.int .i64 k.least,.int .i64 k.most,.func (.func k.wr) #[] #[],.func (.func k.rd) #[] #[]]
abbrev yV8(n:Int):Value:=.int .i64 n
def zZh:List (Int × K5):=[(1,⟨76,1,1,180,181⟩),(2,⟨78,1,15,182,183⟩),(3,⟨68,8,8,184,185⟩),(4,⟨67,1,254,186,187⟩),(5,⟨77,8,8,188,189⟩)]
theorem xYP:prog.underlying 176=some (.map 3 174):=by kernel_rfl
theorem yV6:yKB prog 3 yV8:=xJu (q:=.i64) (by kernel_rfl)
theorem z102(w:World):(zeroValue 174).run prog w=.ok (.agg #[.int .u8 0,.int .i64 0,.int .i64 0,.nilFunc,.nilFunc]) w:=Tryz.zeroValue174 w
theorem zVi(w:World):Calls prog 145 #[] w λe w'=>∃b,e=.returned (.map (some b))/\zXE w' yV8 zYA b zZh/\w.heap.size<=b/\Pu w w':=by
 refine yVc w _ ?_
 refine zY2 λw1 kb=>?_
 have hp:Pu w w1:=by rw[kb];exact Pu.alloc w _
 have hm:zXE w1 yV8 zYA w.heap.size ([]:List (Int × K5)):=by rw[kb];exact zXE.new w _ _
 obtain⟨w2,e2,h2,f2,_⟩:=hm.upd yV6 xYP 1 ⟨76,1,1,180,181⟩
 obtain⟨w3,e3,h3,f3,_⟩:=h2.upd yV6 xYP 2 ⟨78,1,15,182,183⟩
 obtain⟨w4,e4,h4,f4,_⟩:=h3.upd yV6 xYP 3 ⟨68,8,8,184,185⟩
 obtain⟨w5,e5,h5,f5,_⟩:=h4.upd yV6 xYP 4 ⟨67,1,254,186,187⟩
 obtain⟨w6,e6,h6,f6,_⟩:=h5.upd yV6 xYP 5 ⟨77,8,8,188,189⟩
 refine⟨w2,e2,w3,e3,w4,e4,w5,e5,w6,e6,w.heap.size,rfl,h6,Nat.le_refl _,?_⟩
 have n:∀i,i=w.heap.size->w.heap.size<=i:=λi h=>by omega
 exact((((hp.andNew f2 n).andNew f3 n).andNew f4 n).andNew f5 n).andNew f6 n
def zXd(k:Int):Option K5:=AL.get zZh k
theorem zWG{w:World}{b:Nat}(h:zXE w yV8 zYA b zZh)(k:Int)(ok:Bool):(Instr.lookup 176 (.map (some b)) (.int .i64 k) ok).run prog w =
  .ok (if ok then .tuple #[(zXd k).elim (.agg #[.int .u8 0,.int .i64 0,.int .i64 0,.nilFunc,.nilFunc]) zYA,.bool (zXd k).isSome]else(zXd k).elim (.agg #[.int .u8 0,.int .i64 0,.int .i64 0,.nilFunc,.nilFunc]) zYA) w:=
 h.look yV6 xYP (z102 w) k ok
theorem zJZ(k:Int):(k=1/\zXd k=some ⟨76,1,1,180,181⟩)∨(k=2/\zXd k=some ⟨78,1,15,182,183⟩)∨(k=3/\zXd k=some ⟨68,8,8,184,185⟩)∨(k=4/\zXd k=some ⟨67,1,254,186,187⟩)∨(k=5/\zXd k=some ⟨77,8,8,188,189⟩)∨(k ≠ 1/\k ≠ 2/\k ≠ 3/\k ≠ 4/\k ≠ 5/\zXd k=none):=by
 by_cases h1:k=1
 ·subst h1;exact .inl ⟨rfl,rfl⟩
 by_cases h2:k=2
 ·subst h2;exact .inr (.inl ⟨rfl,rfl⟩)
 by_cases h3:k=3
 ·subst h3;exact .inr (.inr (.inl ⟨rfl,rfl⟩))
 by_cases h4:k=4
 ·subst h4;exact .inr (.inr (.inr (.inl ⟨rfl,rfl⟩)))
 by_cases h5:k=5
 ·subst h5;exact .inr (.inr (.inr (.inr (.inl ⟨rfl,rfl⟩))))
 ·refine .inr (.inr (.inr (.inr (.inr ⟨h1,h2,h3,h4,h5,?_⟩))))
  simp[zXd,zZh,AL.get,h1,h2,h3,h4,h5,Ne.symm h1,Ne.symm h2,Ne.symm h3,Ne.symm h4,Ne.symm h5]
def xYF:List UInt8:=[65,66,67,68,69,70,71,72,73,74,75,76,77,78,79,80,81,82,83,84,85,86,87,88,89,90,48,49,50,51,52,53,54,55,56,57,95]
theorem xY1(b:UInt8):xYF.contains b=(zVd b || zZm b || decide (b.toNat=95)):=by
 have h:∀n:Nat,n<256->xYF.contains (UInt8.ofNat n)=(zVd (UInt8.ofNat n) || zZm (UInt8.ofNat n) || decide ((UInt8.ofNat n).toNat=95)):=by decide +kernel
 have:=h b.toNat b.toNat_lt
 rwa [UInt8.ofNat_toNat]at this
theorem zZk{α:Type}(p:α->Bool):∀l:List α,l.dropWhile p=[] ↔ l.all p=true
 | []=>by simp
 | a :: l=>by
  by_cases h:p a=true
  ·rw[List.dropWhile_cons,if_pos h,zZk p l];simp[h]
  ·simp[List.dropWhile,h]
theorem zZq{α:Type}(p:α->Bool):∀l:List α,(l.dropWhile p).all p=true ↔ l.all p=true
 | []=>by simp
 | a :: l=>by
  by_cases h:p a=true
  ·simp only[List.dropWhile_cons,h,if_pos,List.all_cons,Bool.true_and]
   exact zZq p l
  ·simp[List.dropWhile,h]
theorem yZq(l cs:List UInt8):Lib.trimS l cs=[] ↔ l.all (cs.contains ·)=true:=by
 unfold Lib.trimS Lib.trimLeftS Lib.trimRightS
 rw[zZk]
 have:((l.reverse.dropWhile (cs.contains ·)).reverse).all (cs.contains ·)=(l.reverse.dropWhile (cs.contains ·)).all (cs.contains ·):=List.all_reverse
 rw[this,zZq,List.all_reverse]
theorem u110:(prog.info? 181).map (λi=>(i.zero,i.size))=some (some (.agg (Array.replicate 256 (.bool false))),256):=by kernel_rfl
theorem trim_c(s:ByteArray)(hs:s.size<=9223372036854775807)(w:World):Calls prog 190 #[.string s,.string ⟨#[65,66,67,68,69,70,71,72,73,74,75,76,77,78,79,80,81,82,83,84,85,86,87,88,89,90,48,49,50,51,52,53,54,55,56,57,95]⟩] w
  λe w'=>e=.returned (.string ⟨(Lib.trimS s.data.toList xYF).toArray⟩)/\Pu w w':=
 Any.strings_Trim_laid Tryz.lays160 u110 s ⟨#[65,66,67,68,69,70,71,72,73,74,75,76,77,78,79,80,81,82,83,84,85,86,87,88,89,90,48,49,50,51,52,53,54,55,56,57,95]⟩ w hs (by decide) (ascii_of_all (by decide))
theorem zWf{s:ByteArray}{k:Nat}(h:k<s.size):∃b,s[k]?=some b/\s.data.toList[k]?=some b:=by
 refine⟨s[k],by simp[h],?_⟩
 have:k<s.data.toList.length:=by simpa using h
 rw[List.getElem?_eq_getElem this]
 rfl
theorem zYW {s:ByteArray} {k:Nat} {b:UInt8} (h:s.data.toList[k]?=some b):s[k]?=some b:=by
 have hk:k<s.size:=by have:=(List.getElem?_eq_some_iff.1 h).1;simpa using this
 obtain⟨c,h1,h2⟩:=zWf hk
 rw[h2]at h
 rw[h1];exact h
theorem xZP(s:ByteArray)(hs:s.size<=140737488355328)(w:World):Calls prog 146 #[.string s] w λe w'=>e=.returned (.bool (zZ3 s))/\Pu w w':=by
 refine yWM _ w _ ?_
 have no:∀{w2:World},Pu w w2->zZ3 s=false->(Ending.returned (Value.bool false)=Ending.returned (Value.bool (zZ3 s))/\Pu w w2):=λh1 h2=>⟨by rw[h2],h1⟩
 rw[xXe,zZf]
 refine Br.of (λd0=>Br.of (λd1=>(trim_c s (by omega) w).mono ?_) (λd1=>no (Pu.refl _) ?_)) (λd0=>no (Pu.refl _) ?_)
 ·rintro e w2 ⟨rfl,aq⟩
  have d0:¬s.size=0:=by simpa using d0
  have d1:s.size<=10:=by have:=zQk d1;omega
  refine⟨_,rfl,?_⟩
  have e2:((ByteArray.mk (Lib.trimS s.data.toList xYF).toArray).toList == (⟨#[]⟩:ByteArray).toList)=s.data.toList.all (λb=>zVd b || zZm b || decide (b.toNat=95)):=by
   rw[zZf]
   have h1:((ByteArray.mk (Lib.trimS s.data.toList xYF).toArray).size=0) ↔ s.data.toList.all (xYF.contains ·)=true:=by
    rw[←yZq];simp[ByteArray.size]
   rw[show(λb:UInt8=>zVd b || zZm b || decide (b.toNat=95))=(xYF.contains ·)from funext λb=>(xY1 b).symm]
   rw[Bool.eq_iff_iff,decide_eq_true_iff];exact h1
  rw[e2]
  have en:zZ3 s=(s.data.toList.all (λb=>zVd b || zZm b || decide (b.toNat=95)) && (s.data.toList.take 1).all zVd):=by
   unfold zZ3;rw[decide_eq_true (show 1<=s.size by omega),decide_eq_true d1];simp only[Bool.true_and]
  obtain⟨b,aB,aM⟩:=zWf (s:=s) (k:=0) (by omega)
  have ht:s.data.toList.take 1=[b]:=by
   cases hl:s.data.toList with
   | nil=>rw[hl]at aM;simp at aM
   | cons a r=>rw[hl]at aM;simp at aM;simp[aM]
  refine Br.of (λd2=>⟨b,by omega,aB,Br.of (λd3=>⟨b,by omega,aB,?_,aq⟩) (λd3=>?_)⟩) (λd2=>?_)
  ·have d3:=zQk d3
   rw[en,d2,ht]
   simp only[List.all_cons,List.all_nil,Bool.and_true,Bool.true_and,zVd]
   rw[decide_eq_true (show 65<=b.toNat by omega)]
   simp only[Bool.true_and]
   congr 3
   exact propext (by omega)
  ·have d3:=zQd d3
   refine no aq ?_
   rw[en,d2,ht]
   simp only[List.all_cons,List.all_nil,Bool.and_true,Bool.true_and,zVd]
   rw[decide_eq_false (show ¬65<=b.toNat by omega)];rfl
  ·exact no aq (by rw[en,d2];rfl)
 ·have:=zQd d1
  unfold zZ3;rw[decide_eq_false (show ¬s.size<=10 by omega)];simp
 ·have:s.size=0:=by simpa using d0
  unfold zZ3;rw[this];rfl
theorem xXa(b:UInt8)(w:World):Calls prog 166 #[.int .u8 ((b.toNat:Nat):Int)] w λe w'=>e=.returned (.bool (zZm b))/\Pu w w':=by
 refine yVC _ w _ (Br.of (λd=>?_) (λd=>?_))
 ·refine⟨?_,Pu.refl w⟩
  unfold zZm;have:=zQk d;rw[decide_eq_true (show 48<=b.toNat by omega),Bool.true_and]
  congr 2;simp only[decide_eq_decide];omega
 ·refine⟨?_,Pu.refl w⟩
  unfold zZm;have:=zQd d;rw[decide_eq_false (show ¬48<=b.toNat by omega)];rfl
theorem zJX {α:Type} (p:α->Bool) {l:List α} {k:Nat} {x:α} (h:l[k]?=some x):(l.take (k+1)).all p=((l.take k).all p && p x):=by
 rw[zQD h,List.all_append];simp
theorem yY5(s:ByteArray)(w:World):Calls prog 130 #[.string s] w λe w'=>e=.returned (.bool (zZ3 s))/\Pu w w':=by
 refine yWP _ w _ (Br.of (λd0=>⟨?_,Pu.refl _⟩) (λd0=>Br.of (λd1=>⟨?_,Pu.refl _⟩) (λd1=>?_)))
 ·have:=zQk d0
  unfold zZ3;rw[decide_eq_false (show ¬1<=s.size by omega)];rfl
 ·have:=zQk d1
  unfold zZ3;rw[decide_eq_false (show ¬s.size<=10 by omega)];simp
 have d0:=zQd d0
 have d1:=zQd d1
 have en:zZ3 s=(s.data.toList.all (λb=>zVd b || zZm b || decide (b.toNat=95)) && (s.data.toList.take 1).all zVd):=by
  unfold zZ3;rw[decide_eq_true (show 1<=s.size by omega),decide_eq_true (show s.size<=10 by omega)];simp only[Bool.true_and]
 refine zQw s.size (λk t w'=>t=(k:Int)/\Pu w w'/\(s.data.toList.take k).all (λb=>zVd b || zZm b || decide (b.toNat=95))=true/\((s.data.toList.take k).take 1).all zVd=true) ⟨rfl,Pu.refl _,rfl,rfl⟩ ?_
 rintro k J t w2 hk ⟨ht,aq,ha,hf⟩ hJ
 obtain rfl:t=(k:Int):=ht
 refine Br.of (λd2=>?_) (λd2=>?_)
 ·have hks:k<s.size:=by have:=zQk d2;omega
  obtain⟨b,aB,aM⟩:=zWf hks
  have hu:=b.toNat_lt
  have go:∀{w3:World},Pu w2 w3->(zVd b || zZm b || decide (b.toNat=95))=true->(k=0->zVd b=true)->zVc (λe w'=>e=.returned (.bool (zZ3 s))/\Pu w w') J s (k:Int) [] w3:=λ{w3} au h1 h2=>by
   show J (IntKind.i64.wrap ((k:Int)+1)) w3
   rw[zQa (by omega) (by omega)]
   refine hJ _ _ hks ⟨by omega,aq.trans au,?_,?_⟩
   ·rw[zJX _ aM,ha,h1];rfl
   ·by_cases h0:k=0
    ·subst h0;rw[zQD aM];simp[h2 rfl]
    ·have:((s.data.toList.take (k+1)).take 1)=(s.data.toList.take k).take 1:=by rw[List.take_take,List.take_take];congr 1;omega
     rw[this];exact hf
  have no:∀{w3:World},Pu w2 w3->((zVd b || zZm b || decide (b.toNat=95))=false∨(k=0/\zVd b=false))->(Ending.returned (Value.bool false)=Ending.returned (Value.bool (zZ3 s))/\Pu w w3):=λ{w3} au h=>by
   refine⟨?_,aq.trans au⟩
   have hm:b ∈ s.data.toList:=List.mem_of_getElem? aM
   rcases h with h|⟨h0,h⟩
   ·have:s.data.toList.all (λb=>zVd b || zZm b || decide (b.toNat=95))=false:=by
     rw[List.all_eq_false];exact⟨b,hm,by rw[h];simp⟩
    rw[en,this];rfl
   ·subst h0
    have:(s.data.toList.take 1).all zVd=false:=by rw[zQD aM];simp[h]
    rw[en,this];simp
  refine⟨b,by omega,by rw[zXj];exact aB,?_⟩
  have tail:zVd b=false->Br ((k:Int) == 0) (Ending.returned (Value.bool false)=Ending.returned (Value.bool (zZ3 s))/\Pu w w2) (Br (((b.toNat:Nat):Int) != 95) (Calls prog 166 #[.int .u8 ((b.toNat:Nat):Int)] w2 λe w3=>∃tT:Bool,e=.returned (.bool tT)/\Br (!tT) (Ending.returned (Value.bool false)=Ending.returned (Value.bool (zZ3 s))/\Pu w w3) (zVc (λe w'=>e=.returned (.bool (zZ3 s))/\Pu w w') J s (k:Int) [] w3)) (zVc (λe w'=>e=.returned (.bool (zZ3 s))/\Pu w w') J s (k:Int) [] w2)):=λhc=>by
   refine Br.of (λd3=>no (Pu.refl _) (.inr ⟨by have:=zQG d3;omega,hc⟩)) (λd3=>Br.of (λd4=>(xXa b w2).mono ?_) (λd4=>go (Pu.refl _) ?_ (λh=>absurd (by omega) (zQm d3))))
   ·rintro e w3 ⟨rfl,au⟩
    refine⟨_,rfl,Br.of (λd5=>no au (.inl ?_)) (λd5=>go au ?_ (λh=>absurd (by omega) (zQm d3)))⟩
    ·have d5:zZm b=false:=by simpa using d5
     have d4:=zQ2 d4
     rw[hc,d5,decide_eq_false (by omega)];rfl
    ·have d5:zZm b=true:=by simpa using d5
     rw[d5];simp
   ·have:=zQs d4
    rw[decide_eq_true (show b.toNat=95 by omega)];simp
  refine Br.of (λd3=>Br.of (λd4=>?_) (λd4=>go (Pu.refl _) ?_ (λ_=>?_))) (λd3=>?_)
  ·refine tail ?_
   have d4:¬((b.toNat:Nat):Int)<=90:=by simpa using d4
   unfold zVd;rw[decide_eq_false (show ¬b.toNat<=90 by omega)];simp
  ·have d3:=zQk d3
   have d4:((b.toNat:Nat):Int)<=90:=by simpa using d4
   unfold zVd;rw[decide_eq_true (show b.toNat<=90 by omega),decide_eq_true (show 65<=b.toNat by omega)];rfl
  ·have d3:=zQk d3
   have d4:((b.toNat:Nat):Int)<=90:=by simpa using d4
   unfold zVd;rw[decide_eq_true (show b.toNat<=90 by omega),decide_eq_true (show 65<=b.toNat by omega)];rfl
  ·refine tail ?_
   have d3:=zQd d3
   unfold zVd;rw[decide_eq_false (show ¬65<=b.toNat by omega)];simp
 ·have aJ:k=s.size:=by have:=zQd d2;omega
  refine⟨?_,aq⟩
  rw[aJ,show s.size=s.data.toList.length by simp,List.take_length]at ha hf
  rw[en,ha,hf];rfl
end Go.Proofs.YtaeecpjhfmcliaaGreatDoor
/- Table: fields and pages: which are right; empty values. No condition. -/
namespace Go.Proofs.YtaeecpjhfmcliaaGreatDoor
open Go.Sh Go.RowKit Tryz
theorem zZ9{p q:Prop}[Decidable p][Decidable q](h:p ↔ q):decide p=decide q:=by simp[h]
abbrev yQk(f:Fld):Value:=.agg #[.string f.name,.int .i64 f.kind,.int .i64 f.width,.bool f.null]
abbrev zJ6(v:Val):Value:=.agg #[.int .i64 v.kind,.int .i64 v.n,.string v.s]
theorem yKp(n:Int)(w:World):Calls prog 116 #[.int .i64 n] w λe w'=>e=.returned (.bool (zQX n))/\Pu w w':=by
 refine yWt _ w _ (Br.of (λd=>?_) (λd=>?_))
 ·exact⟨by rw[zQX,decide_eq_true (show 0<=n from zQk d)];rfl,Pu.refl w⟩
 ·exact⟨by rw[zQX,decide_eq_false (show ¬0<=n from zQd d)];rfl,Pu.refl w⟩
theorem yZw(n:Int)(w:World):Calls prog 52 #[.int .i64 n] w λe w'=>e=.returned (.bool (zQX n))/\Pu w w':=by
 refine xXj _ w _ (Br.of (λd=>?_) (λd=>?_))
 ·exact⟨by rw[zQX,decide_eq_true (show 0<=n from zQk d)];rfl,Pu.refl w⟩
 ·exact⟨by rw[zQX,decide_eq_false (show ¬0<=n from zQd d)];rfl,Pu.refl w⟩
theorem xXt(k:Int):∃n a b x y,(zXd k).elim (.agg #[.int .u8 0,.int .i64 0,.int .i64 0,.nilFunc,.nilFunc]) zYA=.agg #[.int .u8 n,.int .i64 a,.int .i64 b,x,y]/\yXf x=true/\yXf y=true/\
  (zXd k).isSome=decide (k=1∨k=2∨k=3∨k=4∨k=5)/\((zXd k).isSome=true->∀m:Int,zWI k m=(decide (a<=m) && decide (m<=b))):=by
 rcases zJZ k with⟨rfl,h⟩|⟨rfl,h⟩|⟨rfl,h⟩|⟨rfl,h⟩|⟨rfl,h⟩|⟨h1,h2,h3,h4,h5,h⟩
 ·rw[h];refine⟨_,_,_,_,_,rfl,rfl,rfl,rfl,λ_ m=>?_⟩
  show decide (m=1)=(decide (1<=m) && decide (m<=1))
  rw[←Bool.decide_and];exact zZ9 (by omega)
 ·rw[h];exact⟨_,_,_,_,_,rfl,rfl,rfl,rfl,λ_ m=>rfl⟩
 ·rw[h];refine⟨_,_,_,_,_,rfl,rfl,rfl,rfl,λ_ m=>?_⟩
  show decide (m=8)=(decide (8<=m) && decide (m<=8))
  rw[←Bool.decide_and];exact zZ9 (by omega)
 ·rw[h];exact⟨_,_,_,_,_,rfl,rfl,rfl,rfl,λ_ m=>rfl⟩
 ·rw[h];refine⟨_,_,_,_,_,rfl,rfl,rfl,rfl,λ_ m=>?_⟩
  show decide (m=8)=(decide (8<=m) && decide (m<=8))
  rw[←Bool.decide_and];exact zZ9 (by omega)
 ·rw[h];exact⟨_,_,_,_,_,rfl,rfl,rfl,by simp[h1,h2,h3,h4,h5],λhn=>by simp at hn⟩
theorem yQ9 {k:Int} (h:(zXd k).isSome=false) (m:Int):zWI k m=false:=by
 rcases zJZ k with⟨rfl,h1⟩|⟨rfl,h1⟩|⟨rfl,h1⟩|⟨rfl,h1⟩|⟨rfl,h1⟩|⟨h1,h2,h3,h4,h5,_⟩
 ·rw[h1]at h;simp at h
 ·rw[h1]at h;simp at h
 ·rw[h1]at h;simp at h
 ·rw[h1]at h;simp at h
 ·rw[h1]at h;simp at h
 ·unfold zWI;rw[if_neg h1,if_neg h2,if_neg h3,if_neg h4,if_neg h5]
theorem kQk{n a b:Int}{x y:Value}(hx:yXf x=true)(hy:yXf y=true):(#[.int .u8 n,.int .i64 a,.int .i64 b,x,y]:Array Value).toList.all yXf=true:=by
 show([.int .u8 n,.int .i64 a,.int .i64 b,x,y]:List Value).all yXf=true
 simp only[List.all_cons,List.all_nil,hx,hy];rfl
theorem s102:zX9 prog 174=5:=by kernel_rfl
theorem s25:zX9 prog 73=3:=by kernel_rfl
theorem s23:zX9 prog 129=4:=by kernel_rfl
theorem yXP(f:Fld)(hs:f.name.size<=140737488355328)(w:World):Calls prog 115 #[yQk f] w λe w'=>e=.returned (.bool (zQo f))/\Pu w w':=by
 refine yVE _ _ _ _ w _ ?_
 refine alB λw1 ar aB=>zQc λw2 aq hh2=>?_
 have dO:=ar.trans aq
 refine⟨λw'=>Pu w2 w',Pu.refl _,f.kind,λw' hw'=>hw'.cell (aq.cell (cl aB 1)),?_⟩
 obtain⟨n,a,b,x,y,hk,hx,hy,hsome,hkw⟩:=xXt f.kind
 have main:∀{w3 w4:World} {r:Nat},Pu w1 w3->w3.heap[r]?=some (.cells #[.int .u8 n,.int .i64 a,.int .i64 b,x,y] 174)->Pu w w3->
   yK9 (λe w'=>e=.returned (.bool (zQo f))/\Pu w w') (some (⟨w.heap.size,0,none⟩:Addr)) (some (⟨r,0,none⟩:Addr)) (zXd f.kind).isSome [] w3:=λ{w3 w4 r} q1 q2 q3=>by
  have no:∀{w5:World},Pu w w5->zQo f=false->(Ending.returned (Value.bool false)=Ending.returned (Value.bool (zQo f))/\Pu w w5):=λh1 h2=>⟨by rw[h2],h1⟩
  have bn:=q1.blk aB
  refine Br.of (λd=>⟨f.name,cl0 bn,(xZP f.name hs w3).mono ?_⟩) (λd=>no q3 ?_)
  ·rintro e w5 ⟨rfl,aR⟩
   have bo:=aR.blk bn
   have hr5:=aR.blk q2
   refine⟨_,rfl,Br.of (λd1=>⟨_,cl bo 2,_,cl hr5 1,Br.of (λd2=>⟨_,cl bo 2,_,cl hr5 2,?_,q3.trans aR⟩) (λd2=>no (q3.trans aR) ?_)⟩) (λd1=>no (q3.trans aR) ?_)⟩
   ·unfold zQo;rw[d1,hkw d,decide_eq_true (show a<=f.width from zQk d2)];rfl
   ·unfold zQo;rw[d1,hkw d,decide_eq_false (show ¬a<=f.width from zQd d2)];rfl
   ·unfold zQo;rw[d1];rfl
  ·unfold zQo;rw[yQ9 d];simp
 have hlook:∀{m:Nat} {w':World},zXE w' yV8 zYA m zZh->(Instr.lookup 176 (.map (some m)) (.int .i64 f.kind) true).run prog w'=.ok (.tuple #[.agg #[.int .u8 n,.int .i64 a,.int .i64 b,x,y],.bool (zXd f.kind).isSome]) w':=λ{m w'} hm=>by
  rw[zWG hm,hk];rfl
 constructor
 ·refine(zVi w2).mono ?_
  rintro e w3 ⟨m,rfl,hm,_,au⟩
  refine⟨some m,rfl,λw'=>Pu w3 w',Pu.refl _,λu hu=>au.trans hu,n,a,b,x,y,(zXd f.kind).isSome,λw' hw'=>hlook (hm.pu hw'),?_⟩
  refine alB λw4 aK dm=>⟨λw'=>Pu w3 w',aK,λu hu=>hu,?_⟩
  refine zQi dm s102.symm rfl (kQk hx hy) λw5 bo cN oL=>?_
  have co:Pu w3 w5:=aK.andNew cN λi hi=>by omega
  exact main (w4:=w4) ((aq.trans au).trans co) bo (dO.trans (au.trans co))
 ·refine alB λw4 aK dm=>⟨λw'=>Pu w4 w',Pu.refl _,λu hu=>aK.trans hu,?_⟩
  refine(zVi w4).mono ?_
  rintro e w3 ⟨m,rfl,hm,_,au⟩
  refine⟨some m,rfl,λw'=>Pu w3 w',Pu.refl _,λu hu=>au.trans hu,n,a,b,x,y,(zXd f.kind).isSome,λw' hw'=>hlook (hm.pu hw'),?_⟩
  refine zQi (au.blk dm) s102.symm rfl (kQk hx hy) λw5 bo cN oL=>?_
  have nu:Pu w2 w5:=(aK.trans au).andNew cN λi hi=>by omega
  exact main (w4:=w4) (aq.trans nu) bo (dO.trans nu)
theorem yQF(f:Fld)(w:World):Calls prog 91 #[yQk f] w λe w'=>e=.returned (.bool (zQo f))/\Pu w w':=by
 refine yY2 _ _ _ _ w _ ?_
 refine alB λw1 ar aB=>⟨_,cl0 aB,(yY5 f.name w1).mono ?_⟩
 rintro e w2 ⟨rfl,aq⟩
 have aM:=aq.blk aB
 have q2:=ar.trans aq
 have out:∀{b:Bool},b=zQo f->(Ending.returned (Value.bool b)=Ending.returned (Value.bool (zQo f))/\Pu w w2):=λh=>⟨by rw[h],q2⟩
 have two:∀{lo hi:Int},(zZ3 f.name=true->zWI f.kind f.width=(decide (lo<=f.width) && decide (f.width<=hi)))->zZ3 f.name=true->
   Br (decide (f.width >= lo)) (∃n:Int,w2.cell? ((⟨w.heap.size,0,none⟩:Addr).add 2)=some (.int .i64 n)/\(Ending.returned (Value.bool (decide (n<=hi)))=Ending.returned (Value.bool (zQo f))/\Pu w w2)) (Ending.returned (Value.bool false)=Ending.returned (Value.bool (zQo f))/\Pu w w2):=λ{lo hi} h h0=>
  Br.of (λd=>⟨_,cl aM 2,out (by unfold zQo;rw[h0,h h0,decide_eq_true (show lo<=f.width from zQk d)];rfl)⟩) (λd=>out (by unfold zQo;rw[h0,h h0,decide_eq_false (show ¬lo<=f.width from zQd d)];rfl))
 refine⟨_,rfl,Br.of (λd=>out ?_) (λd=>?_)⟩
 ·have:zZ3 f.name=false:=by simpa using d
  unfold zQo;rw[this];rfl
 have hn:zZ3 f.name=true:=by simpa using d
 have ef:zQo f=zWI f.kind f.width:=by unfold zQo;rw[hn];rfl
 refine⟨_,cl aM 1,Br.of (λd1=>⟨_,cl aM 2,out ?_⟩) (λd1=>Br.of (λd2=>⟨_,cl aM 2,two ?_ hn⟩) (λd2=>Br.of (λd3=>Br.of (λd4=>⟨_,cl aM 2,out ?_⟩) (λd4=>?_)) (λd3=>Br.of (λd4=>⟨_,cl aM 2,out ?_⟩) (λd4=>Br.of (λd5=>⟨_,cl aM 2,two ?_ hn⟩) (λd5=>out ?_)))))⟩
 ·rw[ef,zQG d1];show(f.width == 1)=decide (f.width=1);simp[BEq.beq]
 ·intro _;rw[zQG d2];rfl
 ·rw[ef,zQG d3];show(f.width == 8)=decide (f.width=8);simp[BEq.beq]
 ·exact absurd (zQG d3) (zQm d4)
 ·rw[ef,zQG d4];show(f.width == 8)=decide (f.width=8);simp[BEq.beq]
 ·intro _;rw[zQG d5];rfl
 ·rw[ef];unfold zWI;rw[if_neg (zQm d1),if_neg (zQm d2),if_neg (zQm d3),if_neg (zQm d5),if_neg (zQm d4)]
theorem xQU(f:Fld)(w:World):Calls prog 118 #[yQk f] w λe w'=>e=.returned (zJ6 (zXr f))/\Pu w w':=by
 refine yVa _ _ _ _ w _ ?_
 refine alB λw1 ar aB=>alB λw2 aq aM=>⟨_,cl (aq.blk aB) 1,Br.of (λd=>?_) (λd=>⟨_,cl (aq.blk aB) 1,?_⟩)⟩
 ·refine zQi aM s25.symm rfl rfl λw3 bn fT qU=>?_
  have bj:Pu w w3:=ar.trans (aq.andNew fT λi hi=>by omega)
  exact⟨_,cl bn 0,_,cl bn 1,_,cl bn 2,by unfold zXr;rw[if_pos (zQG d)],bj⟩
 ·refine zQi aM s25.symm rfl rfl λw3 bn fT qU=>?_
  have bj:Pu w w3:=ar.trans (aq.andNew fT λi hi=>by omega)
  exact⟨_,cl bn 0,_,cl bn 1,_,cl bn 2,by unfold zXr;rw[if_neg (zQm d)],bj⟩
theorem kQj(s:ByteArray)(w:World):Calls prog 177 #[.string s] w λe w'=>e=.returned (zJ6 ⟨4,0,s⟩)/\Pu w w':=by
 refine yV5 _ w _ ?_
 refine alB λw2 aq aM=>?_
 refine zQi aM s25.symm rfl rfl λw3 bn fT qU=>?_
 exact⟨_,cl bn 0,_,cl bn 1,_,cl bn 2,rfl,aq.andNew fT λi hi=>by omega⟩
end Go.Proofs.YtaeecpjhfmcliaaGreatDoor
/- Table: numbers in digits; blanks at a text's end. No condition. -/
namespace Go.Proofs.YtaeecpjhfmcliaaGreatDoor
open Go.Sh Go.RowKit Tryz
theorem zJy(a b:List UInt8):bs a ++ bs b=bs (a ++ b):=zQU (by simp[bs])
theorem zJ0(a b:ByteArray):a ++ b=bs (a.data.toList ++ b.data.toList):=zQU (by simp[bs])
theorem zQ8(s:ByteArray)(i j:Nat):(s.extract i j).data.toList=(s.data.toList.take j).drop i:=by
 rw[ByteArray.data_extract,Array.toList_extract,List.extract_eq_take_drop,List.drop_take]
theorem zYi:∀k:Nat,k<10->(⟨#[48,49,50,51,52,53,54,55,56,57]⟩:ByteArray).extract k (k+1)=bs [UInt8.ofNat (48+k)]:=by
 intro k hk
 apply zQU
 rw[zQ8,zQQ]
 match k,hk with
 | 0,_=>rfl
 | 1,_=>rfl
 | 2,_=>rfl
 | 3,_=>rfl
 | 4,_=>rfl
 | 5,_=>rfl
 | 6,_=>rfl
 | 7,_=>rfl
 | 8,_=>rfl
 | 9,_=>rfl
theorem zZn{n:Nat}(h:n<10):zZQ n=[UInt8.ofNat (48+n)]:=by rw[zZQ,dif_pos h]
theorem zZL{n:Nat}(h:¬n<10):zZQ n=zZQ (n / 10) ++ [UInt8.ofNat (48+n % 10)]:=by rw[zZQ,dif_neg h]
theorem zKE(n:Nat):(zZQ n).length<=n+1:=by
 induction n using Nat.strongRecOn with
 | _ n ih=>
  by_cases h:n<10
  ·rw[zZn h];simp
  ·rw[zZL h]
   have:=ih (n / 10) (by omega)
   simp only[List.length_append,List.length_singleton];omega
theorem yXv(n:Nat):1<=(zZQ n).length:=by
 by_cases h:n<10
 ·rw[zZn h];simp
 ·rw[zZL h];simp
theorem zKI(n:Nat):∀b ∈ zZQ n,48<=b.toNat/\b.toNat<=57:=by
 induction n using Nat.strongRecOn with
 | _ n ih=>
  have one:∀k,k<10->48<=(UInt8.ofNat (48+k)).toNat/\(UInt8.ofNat (48+k)).toNat<=57:=λk hk=>by simp;omega
  by_cases h:n<10
  ·rw[zZn h];intro b hb;simp only[List.mem_singleton]at hb;subst hb;exact one n h
  ·rw[zZL h];intro b hb
   rcases List.mem_append.1 hb with hb|hb
   ·exact ih (n / 10) (by omega) b hb
   ·simp only[List.mem_singleton]at hb;subst hb;exact one _ (by omega)
theorem yKg:∀(n:Nat),n<=4611686018427387904->∀w:World,Calls prog 154 #[.int .i64 (n:Int)] w λe w'=>e=.returned (.string (bs (zZQ n)))/\Pu w w':=by
 intro n
 induction n using Nat.strongRecOn with
 | _ n ih=>
  intro hn w
  refine yQ4 _ w _ (Br.of (λd=>absurd (zQk d) (by omega)) (λd=>Br.of (λd1=>?_) (λd1=>zQc λw4 aK _=>?_)))
  ·have d1:n<10:=by have:=zQk d1;omega
   rw[zQa (by omega) (by omega)]
   refine⟨by omega,?_,by omega,by omega,?_,Pu.refl w⟩
   ·show _<=10;omega
   ·rw[zXj,show((n:Int)+1).toNat=n+1 by omega,zYi n d1,zZn d1]
  ·have d1:¬n<10:=by have:=zQd d1;omega
   have e1:((n:Int).tmod 10)=((n % 10:Nat):Int):=by rw[Int.tmod_eq_emod_of_nonneg (by omega)];omega
   have e2:((n:Int).tdiv 10)=((n / 10:Nat):Int):=by rw[Int.tdiv_eq_ediv_of_nonneg (by omega)];omega
   rw[e1,e2,zQa (by omega) (by omega),zQa (by omega) (by omega)]
   have e3:(((n % 10:Nat):Int)+1).toNat=n % 10+1:=by omega
   rw[e3,zXj,zYi (n % 10) (by omega)]
   refine⟨rfl,by omega,rfl,by omega,rfl,by omega,by omega,?_,by omega,by omega,(ih (n / 10) (by omega) (by omega) w4).mono ?_⟩
   ·show _<=10;omega
   rintro e w5 ⟨rfl,aR⟩
   refine⟨_,rfl,?_,?_,aK.trans aR⟩
   ·rw[zQ9,zQ9];have:=zKE (n / 10);simp only[List.length_singleton];omega
   ·rw[zJy,zZL d1]
theorem zKP(n:Nat):zJq (n:Int)=zZQ n:=by unfold zJq;rw[if_neg (by omega)];rfl
theorem zYf{n:Int}(h:n<0):zJq n=45 :: zZQ n.natAbs:=by unfold zJq;rw[if_pos h]
theorem dec_c{n:Int}(h1:-4611686018427387904<=n)(h2:n<=4611686018427387904)(w:World):Calls prog 154 #[.int .i64 n] w λe w'=>e=.returned (.string (bs (zJq n)))/\Pu w w':=by
 by_cases h:n<0
 ·refine yQ4 _ w _ (Br.of (λd=>?_) (λd=>absurd h (zQd d)))
  rw[zQa (by omega) (by omega)]
  have e:(0 - n:Int)=((n.natAbs:Nat):Int):=by omega
  rw[e]
  refine(yKg n.natAbs (by omega) w).mono ?_
  rintro e w2 ⟨rfl,hp⟩
  refine⟨_,rfl,?_,?_,hp⟩
  ·have e4:=zQ9 (zZQ n.natAbs);have:=zKE n.natAbs;show(((1+(bs (zZQ n.natAbs)).size:Nat)):Int)<=_;omega
  ·rw[zYf h];exact congrArg (λx=>Ending.returned (Value.string x)) (zJy [45] _)
 ·obtain⟨k,rfl⟩:∃k:Nat,n=k:=⟨n.toNat,by omega⟩
  rw[zKP]
  exact yKg k (by omega) w
theorem zVB:∀(n:Nat),n<=9223372036854775807->∀w:World,Calls prog 134 #[.int .i64 (n:Int)] w λe w'=>e=.returned (.string (bs (zZQ n)))/\Pu w w':=by
 intro n
 induction n using Nat.strongRecOn with
 | _ n ih=>
  intro hn w
  refine yQw _ w _ (Br.of (λd=>absurd (zQk d) (by omega)) (λd=>Br.of (λd1=>?_) (λd1=>?_)))
  ·have d1:n<10:=by have:=zQk d1;omega
   rw[zQa (by omega) (by omega)]
   refine⟨by omega,?_,by omega,by omega,?_,Pu.refl w⟩
   ·show _<=10;omega
   ·rw[zXj,show((n:Int)+1).toNat=n+1 by omega,zYi n d1,zZn d1]
  ·have d1:¬n<10:=by have:=zQd d1;omega
   have e1:((n:Int).tmod 10)=((n % 10:Nat):Int):=by rw[Int.tmod_eq_emod_of_nonneg (by omega)];omega
   have e2:((n:Int).tdiv 10)=((n / 10:Nat):Int):=by rw[Int.tdiv_eq_ediv_of_nonneg (by omega)];omega
   rw[e1,e2,zQa (by omega) (by omega)]
   refine⟨rfl,by omega,(ih (n / 10) (by omega) (by omega) w).mono ?_⟩
   rintro e w5 ⟨rfl,aR⟩
   refine⟨_,rfl,rfl,by omega,(ih (n % 10) (by omega) (by omega) w5).mono ?_⟩
   rintro e w6 ⟨rfl,bB⟩
   refine⟨_,rfl,?_,?_,aR.trans bB⟩
   ·rw[zQ9,zQ9];have:=zKE (n / 10);have:=zKE (n % 10);omega
   ·rw[zJy,zZL d1,zZn (show n % 10<10 by omega)]
theorem xXL:zJq (-9223372036854775808)=[45,57,50,50,51,51,55,50,48,51,54,56,53,52,55,55,53,56,48,56]:=by decide +kernel
theorem xZi{n:Int}(hn:zZR n)(w:World):Calls prog 134 #[.int .i64 n] w λe w'=>e=.returned (.string (bs (zJq n)))/\Pu w w':=by
 obtain⟨h1,h2⟩:=hn
 by_cases h:n<0
 ·refine yQw _ w _ (Br.of (λd=>Br.of (λd1=>?_) (λd1=>?_)) (λd=>absurd h (zQd d)))
  ·rw[zQG d1,xXL];exact⟨rfl,Pu.refl w⟩
  have d1:=zQm d1
  rw[zQa (by omega) (by omega)]
  have e:(0 - n:Int)=((n.natAbs:Nat):Int):=by omega
  rw[e]
  refine(zVB n.natAbs (by omega) w).mono ?_
  rintro e w2 ⟨rfl,hp⟩
  have hl:(zZQ n.natAbs).length<9223372036854775807:=by
   by_cases oV:n.natAbs<10
   ·rw[zZn oV];simp
   ·rw[zZL oV];have:=zKE (n.natAbs / 10);simp only[List.length_append,List.length_singleton];omega
  refine⟨_,rfl,?_,?_,hp⟩
  ·have e4:=zQ9 (zZQ n.natAbs);show(((1+(bs (zZQ n.natAbs)).size:Nat)):Int)<=_;omega
  ·rw[zYf h];exact congrArg (λx=>Ending.returned (Value.string x)) (zJy [45] _)
 ·obtain⟨k,rfl⟩:∃k:Nat,n=k:=⟨n.toNat,by omega⟩
  rw[zKP]
  exact zVB k (by omega) w
theorem zYK(b:UInt8):∀n,Lib.repeatL [b] n=List.replicate n b
 | 0=>rfl
 | n+1=>by rw[List.replicate_succ,←zYK b n];rfl
theorem zKD(b:UInt8)(n:Nat)(hn:n<=140737488355328)(w:World):Calls prog 155 #[.string ⟨#[b]⟩,.int .i64 (n:Int)] w λe w'=>e=.returned (.string (bs (List.replicate n b)))/\Pu w w':=by
 have h:=Any.strings_Repeat Tryz.lays105 Tryz.Builder_Extra_105 ⟨#[b]⟩ n w (by omega) (by show 1 * n<=_;omega)
 have e:Lib.repeatL (⟨#[b]⟩:ByteArray).data.toList n=List.replicate n b:=zYK b n
 rw[e]at h
 exact h
theorem zYs(s:ByteArray)(hs:s.size<=140737488355328)(w:World):Calls prog 119 #[.string s,.string ⟨#[32]⟩] w λe w'=>e=.returned (.string (bs (zZ4 s.data.toList)))/\Pu w w':=
 (Any.strings_TrimRight_one Tryz.lays162 s 32 (by decide) w (by omega)).mono λe w' ⟨h1,h2⟩=>⟨h1,h2 ▸ Pu.refl _⟩
theorem zW8(l:List UInt8)(b:UInt8):zZ4 (l ++ [b])=if b=32 then zZ4 l else l ++ [b]:=by
 unfold zZ4
 rw[List.reverse_append,List.reverse_singleton,List.singleton_append,List.dropWhile_cons]
 by_cases h:b=32
 ·simp[h]
 ·simp[h]
theorem xZl(s:ByteArray)(hs:s.size<=9223372036854775807)(w:World):Calls prog 135 #[.string s] w λe w'=>e=.returned (.string (bs (zZ4 s.data.toList)))/\Pu w w':=by
 refine yVL _ w _ ?_
 refine zQw s.size (λk t w'=>t=((s.size - k:Nat):Int)/\Pu w w'/\zZ4 s.data.toList=zZ4 (s.data.toList.take (s.size - k))) ⟨rfl,Pu.refl _,by rw[Nat.sub_zero,show s.size=s.data.toList.length by simp,List.take_length]⟩ ?_
 rintro k J t w2 hk ⟨ht,hp,hb⟩ hJ
 obtain rfl:t=((s.size - k:Nat):Int):=ht
 have fin:zZ4 (s.data.toList.take (s.size - k))=s.data.toList.take (s.size - k)->yXS (λe w'=>e=.returned (.string (bs (zZ4 s.data.toList)))/\Pu w w') s ((s.size - k:Nat):Int) [] w2:=λh=>by
  refine⟨by omega,by rw[zXj];omega,by omega,?_,hp⟩
  rw[zXj,hb,h]
  congr 2
  exact zQU (by rw[zQ8,zQQ];rfl)
 refine Br.of (λd=>?_) (λd=>fin ?_)
 ·have aJ:k<s.size:=by have:=zQk d;omega
  rw[yXS]at fin
  have e1:((s.size - k:Nat):Int) - 1=((s.size - (k+1):Nat):Int):=by omega
  rw[e1,zQa (by omega) (by omega)]
  obtain⟨b,aB,aM⟩:=zWf (s:=s) (k:=s.size - (k+1)) (by omega)
  have et:s.data.toList.take (s.size - k)=s.data.toList.take (s.size - (k+1)) ++ [b]:=by
   rw[show s.size - k=s.size - (k+1)+1 by omega,zQD aM]
  refine⟨b,by omega,by rw[zXj];exact aB,Br.of (λd1=>hJ _ _ aJ ⟨rfl,hp,?_⟩) (λd1=>fin ?_)⟩
  ·have:b=32:=by have:=zQG d1;apply UInt8.toNat_inj.1;show b.toNat=32;omega
   rw[hb,et,zW8,if_pos this]
  ·have:¬b=32:=λh=>zQm d1 (by rw[h];rfl)
   rw[et,zW8,if_neg this]
 ·have:s.size - k=0:=by have:=zQd d;omega
  rw[this];rfl
end Go.Proofs.YtaeecpjhfmcliaaGreatDoor
/- Table: pages of characters; which texts a page has. No condition. -/
namespace Go.Proofs.YtaeecpjhfmcliaaGreatDoor
open Go.Sh Go.RowKit Tryz
def yKj(w:World)(r:Nat)(g:Nat->Bool):Prop:=∃c,w.heap[r]?=some (.cells c 213)/\c.size=768/\∀i,i<768->∃n:Int,c[i]?=some (.int .i32 n)/\decide (n<0)=g i
theorem yKj.ext{w:World}{r:Nat}{g g':Nat->Bool}(h:yKj w r g)(e:∀i,i<768->g i=g' i):yKj w r g':=
 let ⟨c,h1,h2,h3⟩:=h;⟨c,h1,h2,λi hi=>let ⟨n,h4,h5⟩:=h3 i hi;⟨n,h4,h5.trans (e i hi)⟩⟩
theorem yKj.fr{B:Nat->Prop}{w w':World}{r:Nat}{g:Nat->Bool}(h:yKj w r g)(hf:Fr B w w')(hn:¬B r):yKj w' r g:=
 let ⟨c,h1,h2⟩:=h;⟨c,hf.blk h1 hn,h2⟩
theorem yKj.st{w:World}{r:Nat}{g:Nat->Bool}(h:yKj w r g){j:Nat}(hj:j<768)(n:Int)(a:Addr)(ha:a=⟨r,j,none⟩){K:World->Prop}
  (hK:∀w',yKj w' r (λi=>if i=j then decide (n<0)else g i)->Fr (·=r) w w'->K w'):st1 a (.int .i32 n) w K:=by
 subst ha
 obtain⟨c,h1,h2,h3⟩:=h
 refine zQt h1 (by omega) λw' hw' hb'=>hK w' ⟨_,hb',by simp[h2],λi hi=>?_⟩ (by rw[hw'];exact Fr.cell w r j _)
 by_cases e:i=j
 ·subst e;exact⟨n,by simp[h2,hi],by simp⟩
 ·obtain⟨m,h4,h5⟩:=h3 i hi
  exact⟨m,by rw[Array.getElem?_setIfInBounds_ne (Ne.symm e)];exact h4,by simp[e,h5]⟩
theorem i32_in{n:Int}(h1:-2147483648<=n)(h2:n<=2147483647):IntKind.i32.wrap n=n:=Go.IntWalk.i32_in n ⟨h1,h2⟩
theorem kQe:zc prog 213=Array.replicate 768 (.int .i32 0):=by kernel_rfl
theorem s149:zX9 prog 213=768:=by kernel_rfl
def sg1(k i:Nat):Bool:=decide ((128<=i/\i<k)∨(640<=i/\i<512+k))
def sg2(k i:Nat):Bool:=decide ((128<=i/\i<256)∨(512+k<=i/\i<768))
def sg3(k i:Nat):Bool:=decide ((128<=i/\i<256)∨(688<=i/\i<736)∨(512+k<=i/\i<768))
theorem ad1(r:Nat)(p k:Nat):(((⟨r,0,none⟩:Addr).add ((p:Int).toNat * 256)).add ((k:Int).toNat * 1))=⟨r,p * 256+k,none⟩:=by
 rw[zQr,zQr,zXj,zXj,Nat.zero_add,Nat.mul_one]
theorem kQt(w:World):Calls prog 196 #[] w λe w'=>∃c:Array Value,e=.returned (.agg c)/\c.size=768/\(∀i,i<768->∃n:Int,c[i]?=some (.int .i32 n)/\decide (n<0)=sg3 240 i)/\Pu w w':=by
 refine yWk w _ ?_
 refine alB λw1 ar aB=>alB λw2 aq aM=>?_
 have hw12:w.heap.size<w1.heap.size:=zQx aB
 have g0:yKj w2 w1.heap.size (sg1 0):=⟨_,aM,by rw[kQe];simp,λi hi=>⟨0,by rw[kQe];simp[hi],by unfold sg1;simp;omega⟩⟩
 -- the end
 have fin:∀{w3:World},yKj w3 w1.heap.size (sg3 240)->Fr (·=w1.heap.size) w2 w3->xXc (λe w'=>∃c:Array Value,e=.returned (.agg c)/\c.size=768/\(∀i,i<768->∃n:Int,c[i]?=some (.int .i32 n)/\decide (n<0)=sg3 240 i)/\Pu w w') (some (⟨w.heap.size,0,none⟩:Addr)) (some (⟨w1.heap.size,0,none⟩:Addr)) [] w3:=by
  intro w3 ⟨c,h1,h2,h3⟩ hf
  have bn:=hf.blk (aq.blk aB) (show ¬w.heap.size=w1.heap.size by omega)
  refine⟨c,h2,λi hi=>cl h1 i,?_⟩
  have ho:c.toList.all yXf=true:=by
   rw[List.all_eq_true]
   intro v hv
   obtain⟨i,hi,rfl⟩:=List.getElem_of_mem hv
   have hi':i<c.size:=by simpa using hi
   obtain⟨n,h4,_⟩:=h3 i (by omega)
   rw[Array.getElem?_eq_getElem hi']at h4
   have h4:=Option.some.inj h4
   rw[Array.getElem_toList,h4];rfl
  refine zQi bn (by rw[s149,h2]) (by rw[kQe,h2];simp) ho λw4 dm gi yt=>?_
  refine⟨c,h2,λi hi=>cl dm i,c,rfl,h2,h3,?_⟩
  have hpu:Pu w w3:=(ar.trans aq).andNew hf λi hi=>by have hi:i=w1.heap.size:=hi;omega
  exact hpu.andNew gi λi hi=>by have hi:i=w.heap.size:=hi;omega
 refine zQw 256 (λk t w'=>t=(k:Int)/\yKj w' w1.heap.size (sg1 k)/\Fr (·=w1.heap.size) w2 w') ⟨rfl,g0,Fr.refl _ _⟩ ?_
 rintro k J t w3 hk ⟨ht,hg,hf⟩ hJ
 obtain rfl:t=(k:Int):=ht
 refine Br.of (λd=>?_) (λd=>?_)
 ·have aJ:k<256:=by have:=zQk d;omega
  refine⟨by omega,by omega,by omega,by omega,?_⟩
  rw[i32_in (by omega) (by omega)]
  refine hg.st (j:=256+k) (by omega) (k:Int) _ (ad1 _ 1 k) λw4 hg4 gi=>?_
  rw[zQa (by omega) (by omega)]
  refine Br.of (λd1=>?_) (λd1=>?_)
  ·have d1:128<=k:=by have:=zQk d1;omega
   refine⟨by omega,by omega,by omega,by omega,hg4.st (j:=0+k) (by omega) (-1) _ (ad1 _ 0 k) λw5 xG cN=>⟨by omega,by omega,by omega,by omega,xG.st (j:=512+k) (by omega) (-1) _ (ad1 _ 2 k) λw6 hg6 iJ=>?_⟩⟩
   refine hJ _ _ aJ ⟨by omega,hg6.ext λi hi=>?_,((hf.trans gi λ_ h _=>h).trans cN λ_ h _=>h).trans iJ λ_ h _=>h⟩
   simp only[sg1]
   repeat' split
   all_goals first|(simp only[decide_eq_decide];omega)|(rw[eq_comm,decide_eq_true_iff];omega)|(rw[eq_comm];simp;omega)|(simp;omega)
  ·have d1:¬128<=k:=by have:=zQd d1;omega
   refine⟨by omega,by omega,by omega,by omega,hg4.st (j:=0+k) (by omega) (k:Int) _ (ad1 _ 0 k) λw5 xG cN=>⟨by omega,by omega,by omega,by omega,xG.st (j:=512+k) (by omega) (k:Int) _ (ad1 _ 2 k) λw6 hg6 iJ=>?_⟩⟩
   refine hJ _ _ aJ ⟨by omega,hg6.ext λi hi=>?_,((hf.trans gi λ_ h _=>h).trans cN λ_ h _=>h).trans iJ λ_ h _=>h⟩
   simp only[sg1]
   repeat' split
   all_goals first|(simp only[decide_eq_decide];omega)|(rw[eq_comm,decide_eq_true_iff];omega)|(rw[eq_comm];simp;omega)|(simp;omega)
 have aJ:k=256:=by have:=zQd d;omega
 subst aJ
 clear hJ J d
 refine zQw 48 (λk t w'=>t=((128+k:Nat):Int)/\yKj w' w1.heap.size (sg2 (128+k))/\Fr (·=w1.heap.size) w2 w') ⟨rfl,hg.ext λi hi=>by unfold sg1 sg2;exact zZ9 (by omega),hf⟩ ?_
 rintro k J t w4 hk ⟨ht,hg,hf⟩ hJ
 obtain rfl:t=((128+k:Nat):Int):=ht
 refine Br.of (λd=>?_) (λd=>?_)
 ·have aJ:k<48:=by have:=zQk d;omega
  refine⟨by omega,by omega,by omega,by omega,?_⟩
  rw[zQa (by omega) (by omega),i32_in (n:=((128+k:Nat):Int) - 128) (by omega) (by omega),i32_in (by omega) (by omega),zQa (by omega) (by omega)]
  refine hg.st (j:=512+(128+k)) (by omega) _ _ (ad1 _ 2 (128+k)) λw5 xG cN=>hJ _ _ aJ ⟨by omega,xG.ext λi hi=>?_,hf.trans cN λ_ h _=>h⟩
  simp only[sg2]
  split
  ·rw[decide_eq_decide];omega
  ·simp only[decide_eq_decide];omega
 have aJ:k=48:=by have:=zQd d;omega
 subst aJ
 clear hJ J d
 refine zQw 16 (λk t w'=>t=((224+k:Nat):Int)/\yKj w' w1.heap.size (sg3 (224+k))/\Fr (·=w1.heap.size) w2 w') ⟨rfl,hg.ext λi hi=>by unfold sg3 sg2;exact zZ9 (by omega),hf⟩ ?_
 rintro k J t w5 hk ⟨ht,hg,hf⟩ hJ
 obtain rfl:t=((224+k:Nat):Int):=ht
 refine Br.of (λd=>?_) (λd=>?_)
 ·have aJ:k<16:=by have:=zQk d;omega
  refine⟨by omega,by omega,by omega,by omega,?_⟩
  rw[zQa (by omega) (by omega),i32_in (n:=((224+k:Nat):Int) - 224) (by omega) (by omega),i32_in (by omega) (by omega),zQa (by omega) (by omega)]
  refine hg.st (j:=512+(224+k)) (by omega) _ _ (ad1 _ 2 (224+k)) λw5 xG cN=>hJ _ _ aJ ⟨by omega,xG.ext λi hi=>?_,hf.trans cN λ_ h _=>h⟩
  simp only[sg3]
  split
  ·rw[decide_eq_decide];omega
  ·simp only[decide_eq_decide];omega
 have aJ:k=16:=by have:=zQd d;omega
 subst aJ
 exact fin hg hf
theorem u149:prog.underlying 213=some (.array 3 212):=by kernel_rfl
theorem xZD{cs:Array Value}{p:Nat}(hp:p<3)(w:World):(Instr.index 213 (.agg cs) (.int .i64 (p:Int))).run prog w=.ok (.agg (cs.extract (p * 256) (p * 256+256))) w:=by
 have h1:(part 212 cs (p * 256)).run prog w=.ok (.agg (cs.extract (p * 256) (p * 256+256))) w:=by
  unfold part
  have a:(isAgg 212).run prog w=.ok true w:=Tryz.isAgg212 w
  have s:(sizeOf 212).run prog w=.ok 256 w:=Tryz.sizeOf212 w
  simp only[Sem.run_bind,a,Result.andThen_ok,if_true,s,Sem.run_pure]
 have s:(sizeOf 212).run prog w=.ok 256 w:=Tryz.sizeOf212 w
 unfold Instr.index
 simp only[asIntOf,Sem.run_bind,Sem.run_pure,Result.andThen_ok,zQn u149]
 have h0:(0:Int)<=(p:Int)/\(p:Int)<((3:Nat):Int):=by omega
 rw[if_pos h0]
 simp only[Sem.run_bind,s,Result.andThen_ok,zXj,h1]
theorem kQv {w:World} {r:Nat} {s:ByteArray} (p:Int) (hb:w.heap[r]?=some (.cells #[.string s] 9)):Calls prog 195 #[.int .i64 p,.slice (some ⟨r,0,none⟩) 1 1] w λe w'=>e=.returned (.int .i64 (if 2048<s.size then 3 else if zQX p then 0 else 1))/\Pu w w':=by
 refine yVY _ ⟨some ⟨r,0,none⟩,1,1⟩ w _ ?_
 refine zQw 1 (λk t w'=>t=(k:Int)/\w'=w/\(0<k->¬2048<s.size)) ⟨rfl,rfl,λh=>by omega⟩ ?_
 rintro k J t w2 hk ⟨ht,hw,hs⟩ hJ
 obtain rfl:t=(k:Int):=ht
 obtain rfl:w2=w:=hw
 refine Br.of (λd=>?_) (λd=>?_)
 ·have fm:k=0:=by have:=zQk d;dsimp only at this;omega
  subst fm
  refine⟨_,rfl,by omega,by dsimp only;omega,s,cl hb 0,Br.of (λd1=>?_) (λd1=>?_)⟩
  ·exact⟨by rw[if_pos (show 2048<s.size by have:=zQk d1;omega)],Pu.refl _⟩
  ·rw[zQa (by omega) (by omega)]
   exact hJ _ _ (by omega) ⟨rfl,rfl,λ_=>by have:=zQd d1;omega⟩
 ·have hk1:k=1:=by have:=zQd d;dsimp only at this;omega
  subst hk1
  rw[if_neg (hs (by omega))]
  refine Br.of (λd1=>?_) (λd1=>Br.of (λd2=>?_) (λd2=>?_))
  ·have:=zQk d1;exact⟨by rw[if_neg];simp[zQX];omega,Pu.refl _⟩
  ·have:=zQk d2;exact⟨by rw[if_neg];simp[zQX];omega,Pu.refl _⟩
  ·have:=zQd d1;have:=zQd d2;exact⟨by rw[if_pos];simp[zQX];omega,Pu.refl _⟩
theorem on_sg{b:UInt8}{p:Nat}(hp:p<3):sg3 240 (p * 256+b.toNat)=!onB b (p:Int):=by
 have:=b.toNat_lt
 unfold sg3 onB
 rcases(by omega:p=0∨p=1∨p=2)with rfl|rfl|rfl
 ·rw[if_pos (by rfl),←decide_not];exact zZ9 (by omega)
 ·rw[if_neg (by omega),if_pos (by rfl)];simp;omega
 ·rw[if_neg (by omega),if_neg (by omega),←Bool.decide_and,←Bool.decide_or,←decide_not];exact zZ9 (by omega)
theorem u9:prog.underlying 9=some .string:=by kernel_rfl
theorem u37:prog.underlying 22=some (.slice 5):=by kernel_rfl
theorem u5:prog.underlying 5=some (.int .u8):=by kernel_rfl
theorem s148:zX9 prog 212=256:=by kernel_rfl
theorem zc148':zc prog 212=Array.replicate 256 (.int .i32 0):=by kernel_rfl
theorem zc148:(zc prog 212).size=256:=by rw[zc148'];simp
theorem yJ6(s:ByteArray)(hs:s.size<=140737488355328)(p:Int)(w:World):Calls prog 152 #[.string s,.int .i64 p] w λe w'=>
  e=.returned (.tuple #[.bool (decide (s.size<=2048) && zQX p && zXN s.data.toList p),.int .i64 (if 2048<s.size then 3 else if zQX p then 0 else 1)])/\Pu w w':=by
 refine yWx _ _ w _ ?_
 refine alB λw1 ar aB=>(kQv p aB).mono ?_
 rintro e w2 ⟨rfl,aq⟩
 refine⟨_,rfl,Br.of (λd=>?_) (λd=>?_)⟩
 ·have d:=zQ2 d
  refine⟨?_,ar.trans aq⟩
  have:(decide (s.size<=2048) && zQX p)=false:=by
   by_cases h:2048<s.size
   ·rw[decide_eq_false (by omega)];rfl
   ·cases h2:zQX p
    ·simp
    ·rw[if_neg h,h2]at d;exact absurd rfl d
  rw[this];rfl
 have d:=zQs d
 have sL:¬2048<s.size:=λh=>by rw[if_pos h]at d;omega
 have hpg:zQX p=true:=by
  cases h2:zQX p
  ·rw[if_neg sL,h2]at d;simp at d
  ·rfl
 obtain⟨q,rfl,hq⟩:∃q:Nat,p=q/\q<3:=⟨p.toNat,by simp[zQX]at hpg;omega,by simp[zQX]at hpg;omega⟩
 refine(kQt w2).mono ?_
 rintro e w3 ⟨c,rfl,hc,hn,au⟩
 refine⟨c,hc,rfl,c.extract (q * 256) (q * 256+256),by simp[hc];omega,w3,xZD hq w3,?_⟩
 have hat:∀i,i<256->∃n:Int,(c.extract (q * 256) (q * 256+256))[i]?=some (.int .i32 n)/\decide (n<0)=sg3 240 (q * 256+i):=λi hi=>by
  obtain⟨n,h1,h2⟩:=hn (q * 256+i) (by omega)
  refine⟨n,?_,h2⟩
  rw[Array.getElem?_extract,if_pos (by omega)]
  exact h1
 refine alB λw4 aK dm=>zQi dm (by rw[s148];simp[hc];omega) (by rw[zc148];simp[hc];omega) ?_ λw5 bo cN oL=>?_
 ·rw[List.all_eq_true]
  intro v hv
  obtain⟨i,hi,rfl⟩:=List.getElem_of_mem hv
  have hi':i<(c.extract (q * 256) (q * 256+256)).size:=by rw[←Array.length_toList];exact hi
  obtain⟨n,h4,_⟩:=hat i (by rw[Array.size_extract]at hi';omega)
  rw[Array.getElem?_eq_getElem hi']at h4
  have h4:=Option.some.inj h4
  rw[Array.getElem_toList,h4];rfl
 have co:Pu w3 w5:=aK.andNew cN λi hi=>by have hi:i=w3.heap.size:=hi;omega
 obtain⟨l,w6,hcv,bB,hl⟩:=yVQ (P:=prog) u9 u37 u5 s (by omega) w5
 have fU:=bB.blk bo
 have hlen:=hl.len
 have hlen2:s.data.toList.length=s.size:=by simp
 have e2:(decide (s.size<=2048) && zQX (q:Int) && zXN s.data.toList (q:Int))=zXN s.data.toList (q:Int):=by rw[hpg,decide_eq_true (by omega)];rfl
 refine⟨l,w6,hcv,zQw s.data.toList.length (λk t w'=>t=(k:Int)/\w'=w6/\zXN (s.data.toList.take k) (q:Int)=true) ⟨rfl,rfl,rfl⟩ ?_⟩
 rintro k J t w7 hk ⟨ht,hw7,htx⟩ hJ
 obtain rfl:t=(k:Int):=ht
 obtain rfl:w7=w6:=hw7
 have hpu:Pu w w7:=(((ar.trans aq).trans au).trans co).trans bB
 refine Br.of (λd1=>?_) (λd1=>?_)
 ·have aJ:k<s.data.toList.length:=by have:=zQk d1;omega
  obtain⟨b,hb⟩:=zQM aJ
  obtain⟨a,ha,hi,hcell⟩:=hl.u8 hb
  have hbl:=b.toNat_lt
  obtain⟨n,hn1,yM⟩:=hat b.toNat (by omega)
  refine⟨a,ha,by omega,by omega,_,by simpa using hcell,by omega,by omega,n,?_,?_⟩
  ·rw[zQr,zQI fU,Nat.zero_add,zXj,Nat.mul_one];exact hn1
  rw[yM,on_sg hq]
  refine Br.of (λd2=>⟨?_,hpu⟩) (λd2=>?_)
  ·have d2:onB b (q:Int)=false:=by simpa using d2
   have:zXN s.data.toList (q:Int)=false:=by
    unfold zXN;rw[List.all_eq_false];exact⟨b,List.mem_of_getElem? hb,by rw[d2];simp⟩
   rw[e2,this,if_neg sL,hpg];rfl
  ·have d2:onB b (q:Int)=true:=by simpa using d2
   rw[zQa (by omega) (by omega)]
   exact hJ _ _ aJ ⟨by omega,rfl,by unfold zXN at *;rw[zJX _ hb,htx,d2];rfl⟩
 ·have aJ:k=s.data.toList.length:=by have:=zQd d1;omega
  rw[aJ,List.take_length]at htx
  exact⟨by rw[e2,htx,if_neg sL,hpg];rfl,hpu⟩
theorem xJf(s:ByteArray)(hs:s.size<=2048){p:Int}(hpg:zQX p=true)(w:World):Calls prog 120 #[.string s,.int .i64 p] w λe w'=>e=.returned (.bool (zXN s.data.toList p))/\Pu w w':=by
 refine yW1 _ _ w _ ((yJ6 s (by omega) p w).mono ?_)
 rintro e w2 ⟨rfl,hp⟩
 have e1:(decide (s.size<=2048) && zQX p && zXN s.data.toList p)=zXN s.data.toList p:=by rw[hpg,decide_eq_true hs];rfl
 refine⟨_,_,rfl,?_⟩
 rw[e1,if_neg (by omega),hpg]
 exact Br.of (λd=>⟨by rw[d];rfl,hp⟩) (λd=>⟨by rw[d],hp⟩)
theorem on_c(b:UInt8)(p:Int)(w:World):Calls prog 168 #[.int .u8 ((b.toNat:Nat):Int),.int .i64 p] w λe w'=>e=.returned (.bool (onB b p))/\Pu w w':=by
 have hu:=b.toNat_lt
 refine yVX _ _ w _ (Br.of (λd=>⟨?_,Pu.refl w⟩) (λd=>Br.of (λd1=>⟨?_,Pu.refl w⟩) (λd1=>Br.of (λd2=>⟨?_,Pu.refl w⟩) (λd2=>Br.of (λd3=>⟨?_,Pu.refl w⟩) (λd3=>⟨?_,Pu.refl w⟩)))))
 ·rw[onB,if_pos (zQG d)];congr 2;exact zZ9 (by omega)
 ·rw[onB,if_neg (zQm d),if_pos (zQG d1)]
 ·have:=zQk d2
  rw[onB,if_neg (zQm d),if_neg (zQm d1),decide_eq_true (show b.toNat<176 by omega)];rfl
 ·have:=zQd d2;have:=zQk d3
  rw[onB,if_neg (zQm d),if_neg (zQm d1),decide_eq_false (show ¬b.toNat<176 by omega),decide_eq_true (show 224<=b.toNat by omega),Bool.false_or,Bool.true_and];congr 2;exact zZ9 (by omega)
 ·have:=zQd d2;have:=zQd d3
  rw[onB,if_neg (zQm d),if_neg (zQm d1),decide_eq_false (show ¬b.toNat<176 by omega),decide_eq_false (show ¬224<=b.toNat by omega)];rfl
theorem yQv(s:ByteArray)(hs:s.size<=140737488355328)(p:Int)(w:World):Calls prog 136 #[.string s,.int .i64 p] w λe w'=>e=.returned (.bool (zXN s.data.toList p))/\Pu w w':=by
 refine yVg _ _ w _ ?_
 refine zQw s.size (λk t w'=>t=(k:Int)/\Pu w w'/\zXN (s.data.toList.take k) p=true) ⟨rfl,Pu.refl _,rfl⟩ ?_
 rintro k J t w2 hk ⟨ht,hp,htx⟩ hJ
 obtain rfl:t=(k:Int):=ht
 refine Br.of (λd=>?_) (λd=>?_)
 ·have aJ:k<s.size:=by have:=zQk d;omega
  obtain⟨b,aB,aM⟩:=zWf aJ
  refine⟨b,by omega,by rw[zXj];exact aB,(on_c b p w2).mono ?_⟩
  rintro e w3 ⟨rfl,au⟩
  refine⟨_,rfl,Br.of (λd1=>⟨?_,hp.trans au⟩) (λd1=>?_)⟩
  ·have d1:onB b p=false:=by simpa using d1
   have:zXN s.data.toList p=false:=by
    unfold zXN;rw[List.all_eq_false];exact⟨b,List.mem_of_getElem? aM,by rw[d1];simp⟩
   rw[this]
  ·have d1:onB b p=true:=by simpa using d1
   rw[zQa (by omega) (by omega)]
   exact hJ _ _ aJ ⟨by omega,hp.trans au,by unfold zXN at *;rw[zJX _ aM,htx,d1];rfl⟩
 ·have aJ:k=s.data.toList.length:=by have:=zQd d;simp;omega
  rw[aJ,List.take_length]at htx
  exact⟨by rw[htx],hp⟩
end Go.Proofs.YtaeecpjhfmcliaaGreatDoor
/- Table: what a value becomes in a field. No condition. -/
namespace Go.Proofs.YtaeecpjhfmcliaaGreatDoor
open Go.Sh Go.RowKit Tryz
theorem yX8(ts:Array TypeId)(r:TypeId)(k:IntKind)(a b:Int)(w:World):(Builtin.min_ ts r #[.int k a,.int k b]).run prog w=.ok (.int k (min a b)) w:=by
 rw[run_min_int2];congr 2;omega
theorem zKH{v:Val}(h:zXk v=0):v.s.size<=2048/\okN v.kind v.n=true/\(v.kind=4∨v.s.size=0):=by
 rw[zZE]at h
 by_cases h1:2048<v.s.size
 ·rw[if_pos h1]at h;omega
 ·rw[if_neg h1]at h
  cases h2:zZw v
  ·rw[h2]at h;simp at h
  ·unfold zZw at h2;simp at h2;exact⟨by omega,h2.1,h2.2.imp id λe=>by rw[e];rfl⟩
def xZz(n w:Int):List UInt8:=if w<(zJq n).length then List.replicate w.toNat 42 else List.replicate (w.toNat - (zJq n).length) 32 ++ zJq n
theorem str_c{n w:Int}(h1:-1000000000000000<=n/\n<=1000000000000000)(h2:1<=w/\w<=254)(W:World):Calls prog 121 #[.int .i64 n,.int .i64 w] W λe W'=>e=.returned (.tuple #[.string (bs (xZz n w)),.int .i64 0])/\Pu W W':=by
 refine yWH _ _ W _ ((xQx n W).mono ?_)
 rintro e W1 ⟨rfl,ar⟩
 refine⟨_,rfl,?_⟩
 rw[decide_eq_true h1.1,decide_eq_true h1.2]
 refine Br.f rfl (Br.of (λd=>absurd (zQk d) (by omega)) (λ_=>Br.of (λd=>absurd (zQk d) (by omega)) (λ_=>(dec_c (by omega) (by omega) W1).mono ?_)))
 rintro e W2 ⟨rfl,aq⟩
 have es:=zQ9 (zJq n)
 refine⟨_,rfl,Br.of (λd=>?_) (λd=>?_)⟩
 ·have d:=zQk d
  have e1:w=((w.toNat:Nat):Int):=by omega
  rw[show(Value.int .i64 w)=.int .i64 ((w.toNat:Nat):Int)by rw[←e1]]
  refine(zKD 42 w.toNat (by omega) W2).mono ?_
  rintro e W3 ⟨rfl,au⟩
  exact⟨_,rfl,by unfold xZz;rw[if_pos (by omega)],(ar.trans aq).trans au⟩
 ·have d:=zQd d
  rw[xXl,zQa (by omega) (by omega)]
  have e1:w - (((bs (zJq n)).size:Nat):Int)=((w.toNat - (zJq n).length:Nat):Int):=by omega
  rw[e1]
  refine(zKD 32 _ (by omega) W2).mono ?_
  rintro e W3 ⟨rfl,au⟩
  refine⟨_,rfl,?_,?_,(ar.trans aq).trans au⟩
  ·rw[zQ9,zQ9];simp only[List.length_replicate];omega
  ·rw[zJy];unfold xZz;rw[if_neg (by omega)]
theorem xZR(s:ByteArray)(b:UInt8)(w:World):Calls prog 122 #[.string s,.string ⟨#[b]⟩] w λe w'=>e=.returned (.bool (decide (s.data.toList.head?=some b)))/\Pu w w':=
 (Any.strings_HasPrefix Tryz.lays99 s ⟨#[b]⟩ w).mono λe w' ⟨h1,h2⟩=>⟨by
  rw[h1];congr 2
  show Lib.hasPrefix s.data.toList [b]=_
  unfold Lib.hasPrefix
  cases s.data.toList with
  | nil=>rfl
  | cons a l=>
   rw[List.isPrefixOf_cons_cons,List.isPrefixOf_nil_left,Bool.and_true]
   by_cases h:b=a
   ·simp[h]
   ·simp[h,Ne.symm h],h2 ▸ Pu.refl _⟩
theorem xQS(n:Int):∃b l,zJq n=b :: l/\b ≠ 42:=by
 by_cases h:n<0
 ·exact⟨45,_,zYf h,by decide⟩
 ·have hn:zJq n=zZQ n.natAbs:=by unfold zJq;rw[if_neg h]
  cases hl:zZQ n.natAbs with
  | nil=>have:=yXv n.natAbs;rw[hl]at this;simp at this
  | cons b l=>
   refine⟨b,l,by rw[hn,hl],λe=>?_⟩
   have:=zKI n.natAbs b (by rw[hl];simp)
   rw[e]at this;simp at this
theorem xQQ{n w:Int}(h:1<=w):decide ((xZz n w).head?=some 42)=decide (w<(zJq n).length):=by
 obtain⟨b,l,hd,hb⟩:=xQS n
 unfold xZz
 by_cases h1:w<(zJq n).length
 ·rw[if_pos h1,decide_eq_true h1]
  obtain⟨k,hk⟩:∃k,w.toNat=k+1:=⟨w.toNat - 1,by omega⟩
  rw[hk,List.replicate_succ];simp
 ·rw[if_neg h1,decide_eq_false h1]
  cases hm:w.toNat - (zJq n).length with
  | zero=>rw[hd];simp[hb]
  | succ m=>simp[List.replicate_succ]
theorem retV {w:World} {r:Nat} {c:Array Value} (v:Val) (k:Int) {R:Rt} (hb:w.heap[r]?=some (.cells c 73)) (hc:c.size=3) (hR:∀w',Fr (·=r) w w'->R (.returned (.tuple #[zJ6 v,.int .i64 k])) w') :
  stA prog 73 (⟨r,0,none⟩:Addr) #[.int .i64 v.kind,.int .i64 v.n,.string v.s] w λw'=>∃n0:Int,w'.cell? ((⟨r,0,none⟩:Addr).add 0)=some (.int .i64 n0)/\∃n1:Int,w'.cell? ((⟨r,0,none⟩:Addr).add 1)=some (.int .i64 n1)/\
   ∃s2:ByteArray,w'.cell? ((⟨r,0,none⟩:Addr).add 2)=some (.string s2)/\R (.returned (.tuple #[.agg #[.int .i64 n0,.int .i64 n1,.string s2],.int .i64 k])) w':=
 zQi hb s25.symm (by rw[hc];rfl) rfl λw' hb' hf _=>⟨_,cl hb' 0,_,cl hb' 1,_,cl hb' 2,hR w' hf⟩
theorem zJE {f:Fld} {p:Int} {v:Val} (h:(zQo f && zQX p)=false):zZT f p v=(noV,1):=by unfold zZT;rw[h];rfl
theorem zK7 {f:Fld} {p:Int} {v:Val} (h:(zQo f && zQX p)=true) (h2:zXk v ≠ 0):zZT f p v=(noV,zXk v):=by unfold zZT;rw[h,if_pos rfl,if_pos h2]
theorem zJU {f:Fld} {p:Int} {v:Val} (h:(zQo f && zQX p)=true) (h2:zXk v=0):zZT f p v=zQS f p v:=by unfold zZT;rw[h,if_pos rfl,if_neg (by omega)]
theorem zYa{f:Fld}(h:zQo f=true)(hk:f.kind=4):1<=f.width/\f.width<=254:=by
 unfold zQo zWI at h;rw[hk]at h;simp at h;exact h.2
theorem xYM{f:Fld}(h:zQo f=true)(hk:f.kind=2):1<=f.width/\f.width<=15:=by
 unfold zQo zWI at h;rw[hk]at h;simp at h;exact h.2
theorem yKN(l:List UInt8)(w:Int)(n:Nat)(hn:l.length=n)(hw:0<=w):l.take (min (n:Int) w).toNat=l.take w.toNat:=by
 by_cases h:(n:Int)<=w
 ·rw[show(min (n:Int) w).toNat=n by omega,List.take_of_length_le (by omega),List.take_of_length_le (by omega)]
 ·rw[show min (n:Int) w=w by omega]
theorem yXu(l:List UInt8):(zZ4 l).length<=l.length:=by
 unfold zZ4
 have h:=List.IsSuffix.length_le (List.dropWhile_suffix (· == (32:UInt8)) (l:=l.reverse))
 simpa using h
theorem fit_c(f:Fld)(p:Int)(v:Val)(hs:f.name.size<=140737488355328)(w:World):Calls prog 83 #[yQk f,.int .i64 p,zJ6 v] w λe w'=>
  e=.returned (.tuple #[zJ6 (zZT f p v).1,.int .i64 (zZT f p v).2])/\Pu w w':=by
 refine xQg _ _ _ _ _ _ _ _ w _ ?_
 refine alB λw1 ar aB=>alB λw2 aq aM=>alB λw3 au bn=>?_
 have z1:w1.heap.size<=w2.heap.size:=aq.size
 have z0:w.heap.size<=w1.heap.size:=ar.size
 have l1:w.heap.size<w1.heap.size:=zQx aB
 have l2:w1.heap.size<w2.heap.size:=zQx aM
 have aU:Pu w w3:=(ar.trans aq).trans au
 -- a value and a code are handed back
 have out:∀{wz:World} (v':Val) (k:Int) {c:Array Value},Pu w wz->wz.heap[w2.heap.size]?=some (.cells c 73)->c.size=3->zZT f p v=(v',k)->
   stA prog 73 (⟨w2.heap.size,0,none⟩:Addr) #[.int .i64 v'.kind,.int .i64 v'.n,.string v'.s] wz λw'=>∃n0:Int,w'.cell? ((⟨w2.heap.size,0,none⟩:Addr).add 0)=some (.int .i64 n0)/\∃n1:Int,w'.cell? ((⟨w2.heap.size,0,none⟩:Addr).add 1)=some (.int .i64 n1)/\
    ∃s2:ByteArray,w'.cell? ((⟨w2.heap.size,0,none⟩:Addr).add 2)=some (.string s2)/\(Ending.returned (.tuple #[.agg #[.int .i64 n0,.int .i64 n1,.string s2],.int .i64 k])=.returned (.tuple #[zJ6 (zZT f p v).1,.int .i64 (zZT f p v).2])/\Pu w w'):=λ{wz} v' k {c} h1 h2 h3 h4=>
  retV (R:=λe w'=>e=.returned (.tuple #[zJ6 (zZT f p v).1,.int .i64 (zZT f p v).2])/\Pu w w') v' k h2 h3 λw' hf=>⟨by rw[h4],h1.andNew hf λi hi=>by have hi:i=w2.heap.size:=hi;omega⟩
 have b1:∀{wz},Pu w3 wz->wz.heap[w.heap.size]?=some (.cells #[.string f.name,.int .i64 f.kind,.int .i64 f.width,.bool f.null] 129):=λh=>h.blk (au.blk (aq.blk aB))
 have b2:∀{wz},Pu w3 wz->wz.heap[w1.heap.size]?=some (.cells #[.int .i64 v.kind,.int .i64 v.n,.string v.s] 73):=λh=>h.blk (au.blk aM)
 have b3:∀{wz},Pu w3 wz->wz.heap[w2.heap.size]?=some (.cells #[.int .i64 0,.int .i64 0,.string ⟨#[]⟩] 73):=λh=>h.blk bn
 have q0:=b1 (Pu.refl w3)
 refine⟨_,cl q0 0,_,cl q0 1,_,cl q0 2,_,cl q0 3,(yXP f hs w3).mono ?_⟩
 rintro e w4 ⟨rfl,aK⟩
 refine⟨_,rfl,Br.of (λd=>out noV 1 (aU.trans aK) (b3 aK) rfl (zJE (by simp at d;simp[d]))) (λd=>(yKp p w4).mono ?_)⟩
 have hfB:zQo f=true:=by simpa using d
 rintro e w5 ⟨rfl,aR⟩
 have co:=aK.trans aR
 refine⟨_,rfl,Br.of (λd=>out noV 1 (aU.trans co) (b3 co) rfl (zJE (by simp at d;simp[d]))) (λd=>?_)⟩
 have hpB:zQX p=true:=by simpa using d
 have hB:(zQo f && zQX p)=true:=by rw[hfB,hpB];rfl
 refine⟨_,cl (b2 co) 0,_,cl (b2 co) 1,_,cl (b2 co) 2,(xQD v w5).mono ?_⟩
 rintro e w6 ⟨rfl,bB⟩
 have cB:=co.trans bB
 have eL:=aU.trans cB
 refine⟨_,rfl,Br.of (λd=>out noV (zXk v) eL (b3 cB) rfl (zK7 hB (zQ2 d))) (λd=>?_)⟩
 have hv:=zQs d
 obtain⟨hvs,hvn,hv4⟩:=zKH hv
 have hF:=zJU (f:=f) (p:=p) hB hv
 refine⟨_,cl0 (b2 cB),Br.of (λd0=>⟨_,cl (b1 cB) 3,Br.of (λd1=>out noV 7 eL (b3 cB) rfl ?_) (λd1=>⟨_,cl (b2 cB) 0,_,cl (b2 cB) 1,_,cl (b2 cB) 2,out v 0 eL (b3 cB) rfl ?_⟩)⟩) (λd0=>?_)⟩
 ·rw[hF];unfold zQS;rw[if_pos (zQG d0),show f.null=false by simpa using d1];rfl
 ·rw[hF];unfold zQS;rw[if_pos (zQG d0),show f.null=true by simpa using d1];rfl
 have d0:=zQm d0
 refine zQc λw7 cv hh7=>⟨λu=>Pu w7 u,Pu.refl _,v.kind,λu hu=>cl0 (b2 ((cB.trans cv).trans hu)),f.name,λu hu=>cl (b1 ((cB.trans cv).trans hu)) 0,f.kind,λu hu=>cl (b1 ((cB.trans cv).trans hu)) 1,f.width,λu hu=>cl (b1 ((cB.trans cv).trans hu)) 2,f.null,λu hu=>cl (b1 ((cB.trans cv).trans hu)) 3,(xQU f w7).mono ?_⟩
 rintro e w8 ⟨rfl,bP⟩
 have im:=(cB.trans cv).trans bP
 have dP:=aU.trans im
 refine⟨_,_,_,rfl,bP,Br.of (λd1=>out noV 6 dP (b3 im) rfl ?_) (λd1=>⟨_,cl (b1 im) 1,?_⟩)⟩
 ·rw[hF];unfold zQS;rw[if_neg d0,if_pos (zQ2 d1)]
 have d1:=zQs d1
 have qV:zZT f p v=if f.kind=4 then(if zXN (zZ4 (v.s.data.toList.take f.width.toNat)) p then(⟨4,0,bs (zZ4 (v.s.data.toList.take f.width.toNat))⟩,0)else(noV,10))else if zQR f p v then(v,0)else(noV,10):=by
  rw[hF];unfold zQS;rw[if_neg d0,if_neg (by rw[d1];simp)]
 have nw:¬zXk v ≠ 0:=by omega
 -- what a value is that stays
 have stay:∀{wz:World},Pu w3 wz->zZT f p v=(v,0)->∃n0:Int,wz.cell? ((⟨w1.heap.size,0,none⟩:Addr).add 0)=some (.int .i64 n0)/\∃n1:Int,wz.cell? ((⟨w1.heap.size,0,none⟩:Addr).add 1)=some (.int .i64 n1)/\∃s2:ByteArray,wz.cell? ((⟨w1.heap.size,0,none⟩:Addr).add 2)=some (.string s2)/\
   stA prog 73 (⟨w2.heap.size,0,none⟩:Addr) #[.int .i64 n0,.int .i64 n1,.string s2] wz λw'=>∃n0:Int,w'.cell? ((⟨w2.heap.size,0,none⟩:Addr).add 0)=some (.int .i64 n0)/\∃n1:Int,w'.cell? ((⟨w2.heap.size,0,none⟩:Addr).add 1)=some (.int .i64 n1)/\
    ∃s2:ByteArray,w'.cell? ((⟨w2.heap.size,0,none⟩:Addr).add 2)=some (.string s2)/\(Ending.returned (.tuple #[.agg #[.int .i64 n0,.int .i64 n1,.string s2],.int .i64 0])=.returned (.tuple #[zJ6 (zZT f p v).1,.int .i64 (zZT f p v).2])/\Pu w w'):=λ{wz} h h2=>
  ⟨_,cl (b2 h) 0,_,cl (b2 h) 1,_,cl (b2 h) 2,out v 0 (aU.trans h) (b3 h) rfl h2⟩
 refine Br.of (λd2=>?_) (λd2=>Br.of (λd3=>?_) (λd3=>Br.of (λd4=>?_) (λd4=>?_)))
 ·have d2:=zQG d2
  obtain⟨wl,wh⟩:=zYa hfB d2
  rw[if_pos d2]at qV
  refine⟨_,cl (b2 im) 2,_,cl (b2 im) 2,_,cl (b1 im) 2,_,w8,yX8 _ _ _ _ _ _,by omega,by omega,by omega,(zYs _ (by have:=zQ8 v.s 0 (min (v.s.size:Int) f.width).toNat;have:=zQ3 (v.s.extract 0 (min (v.s.size:Int) f.width).toNat);simp at *;omega) w8).mono ?_⟩
  rintro e w9 ⟨rfl,cx⟩
  have et:(v.s.extract 0 (min (v.s.size:Int) f.width).toNat).data.toList=v.s.data.toList.take f.width.toNat:=by
   rw[zQ8,List.drop_zero];exact yKN _ _ _ (by simp) (by omega)
  rw[et]
  have sv:=im.trans cx
  have hkind:v.kind=4:=by rw[d1];unfold zXr;rw[if_neg (by omega)];exact d2
  have qm:v.n=0:=by rw[hkind]at hvn;simpa[okN] using hvn
  have hbl:(bs (zZ4 (v.s.data.toList.take f.width.toNat))).size<=2048:=by
   rw[zQ9];have:=yXu (v.s.data.toList.take f.width.toNat);have:=List.length_take_le f.width.toNat v.s.data.toList;have:=List.length_take_le' f.width.toNat v.s.data.toList;rw[zQ3]at this;omega
  generalize hg:zZ4 (v.s.data.toList.take f.width.toNat)=B at *
  refine⟨_,rfl,?_⟩
  rw[zZi,zQr,Nat.zero_add]
  refine zQt (b2 sv) (show 2<3 by omega) λaN xH iD=>?_
  have nx:Fr (·=w1.heap.size) w9 aN:=by rw[xH];exact Fr.cell w9 _ 2 _
  have qe:aN.heap[w1.heap.size]?=some (.cells #[.int .i64 v.kind,.int .i64 v.n,.string (bs B)] 73):=iD
  have wV:Pu w aN:=(aU.trans sv).andNew nx λi hi=>by have hi:i=w1.heap.size:=hi;omega
  have qg:=nx.blk (b3 sv) (show ¬w2.heap.size=w1.heap.size by omega)
  refine⟨_,cl qe 2,(xJf _ hbl hpB aN).mono ?_⟩
  rintro e aV ⟨rfl,eI⟩
  rw[zQQ]
  refine⟨_,rfl,Br.of (λd3=>out noV 10 (wV.trans eI) (eI.blk qg) rfl ?_) (λd3=>⟨_,cl (eI.blk qe) 0,_,cl (eI.blk qe) 1,_,cl (eI.blk qe) 2,?_⟩)⟩
  ·rw[qV,show zXN B p=false by simpa using d3];rfl
  ·rw[hkind,qm]
   exact out ⟨4,0,bs B⟩ 0 (wV.trans eI) (eI.blk qg) rfl (by rw[qV,show zXN B p=true by simpa using d3];rfl)
 ·have d2:=zQm d2
  have d3:=zQG d3
  obtain⟨wl,wh⟩:=xYM hfB d3
  have hkind:v.kind=2:=by rw[d1];unfold zXr;rw[if_neg (by omega)];exact d3
  have hn:-1000000000000000<=v.n/\v.n<=1000000000000000:=by rw[hkind]at hvn;simpa[okN] using hvn
  have hfit:zQR f p v=decide (((zJq v.n).length:Int)<=f.width):=by
   unfold zQR;rw[if_neg nw,if_neg d0,if_neg (by omega),if_neg (by rw[hkind,d3];simp),if_pos d3]
  rw[if_neg d2,hfit]at qV
  refine⟨_,cl (b2 im) 1,_,cl (b1 im) 2,(str_c hn ⟨wl,by omega⟩ w8).mono ?_⟩
  rintro e w9 ⟨rfl,cx⟩
  have sv:=im.trans cx
  refine⟨_,_,rfl,Br.of (λd4=>absurd rfl (zQ2 d4)) (λ_=>(xZR _ 42 w9).mono ?_)⟩
  rintro e aN ⟨rfl,dk⟩
  have j3:=sv.trans dk
  refine⟨_,rfl,?_⟩
  rw[zQQ,xQQ wl]
  refine Br.of (λd4=>out noV 10 (aU.trans j3) (b3 j3) rfl ?_) (λd4=>stay j3 ?_)
  ·rw[qV,decide_eq_false (by have:=zQk d4;omega)];rfl
  ·rw[qV,decide_eq_true (by have:=zQd d4;omega)];rfl
 ·have d2:=zQm d2
  have d4:=zQG d4
  have hkind:v.kind=2:=by rw[d1];unfold zXr;rw[if_pos d4]
  have hfit:zQR f p v=zVR v.n:=by
   unfold zQR;rw[if_neg nw,if_neg d0,if_pos d4,hkind];rfl
  rw[if_neg d2,hfit]at qV
  refine⟨_,cl (b2 im) 1,Br.of (λd5=>out noV 10 dP (b3 im) rfl ?_) (λd5=>⟨_,cl (b2 im) 1,Br.of (λd6=>out noV 10 dP (b3 im) rfl ?_) (λd6=>stay im ?_)⟩)⟩
  ·rw[qV,show zVR v.n=false by unfold zVR;rw[decide_eq_false (by have:=zQk d5;omega)];rfl];rfl
  ·rw[qV,show zVR v.n=false by unfold zVR;rw[decide_eq_false (show ¬v.n<=99999999 by have:=zQk d6;omega)];simp];rfl
  ·rw[qV,show zVR v.n=true by unfold zVR;rw[decide_eq_true (show 0<=v.n by have:=zQd d5;omega),decide_eq_true (show v.n<=99999999 by have:=zQd d6;omega)];rfl];rfl
 ·have d2:=zQm d2
  have d3:=zQm d3
  have d4:=zQm d4
  have hfit:zQR f p v=true:=by
   unfold zQR;rw[if_neg nw,if_neg d0,if_neg d4,if_neg (by rw[d1];unfold zXr;rw[if_neg d4];simp),if_neg d3,if_neg d2]
  rw[if_neg d2,hfit]at qV
  exact stay im qV
end Go.Proofs.YtaeecpjhfmcliaaGreatDoor
