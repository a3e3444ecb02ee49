import Derived.Test.YtaeecpjhfmcliaaGreatDoorShNine
import Derived.Test.YtaeecpjhfmcliaaGreatDoorShSeventeen
import Derived.Test.YtaeecpjhfmcliaaGreatDoorLgPrA
import Derived.Test.YtaeecpjhfmcliaaGreatDoorShTwentyTwo
import Derived.Test.YtaeecpjhfmcliaaGreatDoorLtShelf
import Derived.Test.YtaeecpjhfmcliaaGreatDoorShThirteen
/- Table: data, and what is computed on it, in plain words. No condition. -/
set_option linter.unusedVariables false
set_option linter.unusedSimpArgs false
namespace Go.Proofs.YtaeecpjhfmcliaaGreatDoor
open Go.Sh Go.RowKit Tryz
theorem zXO {α:Type} {l:List α} {k:Nat} {x:α} (h:l[k]?=some x):l.drop k=x :: l.drop (k+1):=by
 obtain⟨h1,h2⟩:=List.getElem?_eq_some_iff.1 h
 rw[List.drop_eq_getElem_cons h1,h2]
theorem zQ8 {α:Type} {l:List α} {k:Nat} {x:α} (h:l[k]?=some x):l.take (k+1)=l.take k ++ [x]:=by
 rw[List.take_add_one,h];rfl
theorem zQZ{α:Type}{l:List α}{k:Nat}(h:k<l.length):∃x,l[k]?=some x:=⟨_,List.getElem?_eq_getElem h⟩
theorem xZm(a:Addr):a.add 0=a:=by simp[Addr.add]
theorem zXz(s t:ByteArray):(s.toList == t.toList)=decide (s=t):=by rw[←beq_toListBytes,zZk]
theorem zQI{s t:ByteArray}(h:s.data.toList=t.data.toList):s=t:=by
 obtain⟨⟨a⟩⟩:=s;obtain⟨⟨b⟩⟩:=t;simp at h;rw[h]
theorem zQy(s:ByteArray):s.data.toList.length=s.size:=by simp
abbrev bs(l:List UInt8):ByteArray:=⟨l.toArray⟩
theorem zQH(l:List UInt8):(bs l).data.toList=l:=by simp[bs]
theorem yZ0(s:ByteArray):bs s.data.toList=s:=by obtain⟨⟨a⟩⟩:=s;rfl
theorem zQ3(l:List UInt8):(bs l).size=l.length:=by simp[bs,ByteArray.size]
structure Fld where
 name:ByteArray
 kind:Int
 width:Int
 null:Bool
deriving DecidableEq, Inhabited
structure Val where
 kind:Int
 n:Int
 s:ByteArray
deriving DecidableEq, Inhabited
structure Rec where
 gone:Bool
 v:List Val
deriving DecidableEq, Inhabited
structure Tbl where
 page:Int
 fields:List Fld
 recs:List Rec
deriving DecidableEq, Inhabited
def zZZ(n:Int):Prop:=-9223372036854775808<=n/\n<=9223372036854775807
instance:Enc Bool where
 sz:=1
 rd _ vs b:=vs=[.bool b]
 len h:=by rw[h];rfl
 pu _ h:=h
abbrev zYp(f:Fld):List Value:=[.string f.name,.int .i64 f.kind,.int .i64 f.width,.bool f.null]
abbrev zVO(v:Val):List Value:=[.int .i64 v.kind,.int .i64 v.n,.string v.s]
instance:Enc Fld where
 sz:=4
 rd _ vs f:=vs=zYp f/\zZZ f.kind/\zZZ f.width
 len h:=by rw[h.1];rfl
 pu _ h:=h
instance:Lim Fld:=⟨λf=>Lim.ok f.name⟩
instance:Enc Val where
 sz:=3
 rd _ vs v:=vs=zVO v/\zZZ v.kind/\zZZ v.n
 len h:=by rw[h.1];rfl
 pu _ h:=h
instance:Lim Val:=⟨λv=>Lim.ok v.s⟩
instance:Enc Rec where
 sz:=2
 rd w vs r:=∃s:SV,vs=[.bool r.gone,.slice s.a s.len s.cap]/\zXF w s r.v
 len h:=by obtain⟨s,rfl,_⟩:=h;rfl
 pu hp h:=let ⟨s,h1,h2⟩:=h;⟨s,h1,h2.pu hp⟩
instance:Lim Rec:=⟨λr=>Lim.ok r.v⟩
structure zXD(w:World)(t:Tbl)(f r:SV):Prop where
 page:zZZ t.page
 fields:zXF w f t.fields
 recs:zXF w r t.recs
theorem zXD.pu{w w':World}{t:Tbl}{f r:SV}(h:zXD w t f r)(hp:Pu w w'):zXD w' t f r:=⟨h.page,h.fields.pu hp,h.recs.pu hp⟩
instance:Enc Tbl where
 sz:=3
 rd w vs t:=∃f r:SV,vs=[.int .i64 t.page,.slice f.a f.len f.cap,.slice r.a r.len r.cap]/\zXD w t f r
 len h:=by obtain⟨f,r,rfl,_⟩:=h;rfl
 pu hp h:=let ⟨f,r,h1,h2⟩:=h;⟨f,r,h1,h2.pu hp⟩
instance:Lim Tbl:=⟨λt=>Lim.ok t.fields/\Lim.ok t.recs⟩
theorem zJw {w:World} {s:SV} {l:List Fld} (h:zXF w s l) {i:Nat} {f:Fld} (hx:l[i]?=some f):∃a,s.a=some a/\i<s.len/\zZZ f.kind/\zZZ f.width/\
  w.cell? (a.add (i * 4))=some (.string f.name)/\w.cell? ((a.add (i * 4)).add 0)=some (.string f.name)/\w.cell? ((a.add (i * 4)).add 1)=some (.int .i64 f.kind)/\w.cell? ((a.add (i * 4)).add 2)=some (.int .i64 f.width)/\w.cell? ((a.add (i * 4)).add 3)=some (.bool f.null):=by
 obtain⟨a,ha,vs,⟨rfl,h1⟩,h2⟩:=h.get i f hx
 have hi:i<l.length:=(List.getElem?_eq_some_iff.1 hx).1
 have h2:zJl w (a.add (i * 4)) (zYp f):=h2
 exact⟨a,ha,by rw[h.len];exact hi,h1.1,h1.2,by rw[←xZm (a.add _)];exact h2 0 _ rfl,h2 0 _ rfl,h2 1 _ rfl,h2 2 _ rfl,h2 3 _ rfl⟩
theorem xX0 {w:World} {s:SV} {l:List Val} (h:zXF w s l) {i:Nat} {v:Val} (hx:l[i]?=some v):∃a,s.a=some a/\i<s.len/\zZZ v.kind/\zZZ v.n/\
  w.cell? ((a.add (i * 3)).add 0)=some (.int .i64 v.kind)/\w.cell? ((a.add (i * 3)).add 1)=some (.int .i64 v.n)/\w.cell? ((a.add (i * 3)).add 2)=some (.string v.s):=by
 obtain⟨a,ha,vs,⟨rfl,h1⟩,h2⟩:=h.get i v hx
 have hi:i<l.length:=(List.getElem?_eq_some_iff.1 hx).1
 have h2:zJl w (a.add (i * 3)) (zVO v):=h2
 exact⟨a,ha,by rw[h.len];exact hi,h1.1,h1.2,h2 0 _ rfl,h2 1 _ rfl,h2 2 _ rfl⟩
theorem yQz {w:World} {s:SV} {l:List Rec} (h:zXF w s l) {i:Nat} {r:Rec} (hx:l[i]?=some r):∃a t,s.a=some a/\i<s.len/\zXF w t r.v/\
  w.cell? ((a.add (i * 2)).add 0)=some (.bool r.gone)/\w.cell? ((a.add (i * 2)).add 1)=some (.slice t.a t.len t.cap):=by
 obtain⟨a,ha,vs,⟨t,rfl,h1⟩,h2⟩:=h.get i r hx
 have hi:i<l.length:=(List.getElem?_eq_some_iff.1 hx).1
 have h2:zJl w (a.add (i * 2)) [.bool r.gone,.slice t.a t.len t.cap]:=h2
 exact⟨a,t,ha,by rw[h.len];exact hi,h1,h2 0 _ rfl,h2 1 _ rfl⟩
def noV:Val:=⟨0,0,⟨#[]⟩⟩
def zWs(b:UInt8):Bool:=decide (65<=b.toNat) && decide (b.toNat<=90)
def zXL(b:UInt8):Bool:=decide (48<=b.toNat) && decide (b.toNat<=57)
def zXV(s:ByteArray):Bool:=decide (1<=s.size) && decide (s.size<=10) && s.data.toList.all (λb=>zWs b || zXL b || decide (b.toNat=95)) && (s.data.toList.take 1).all zWs
def zKY(k w:Int):Bool:=if k=1 then decide (w=1)else if k=2 then decide (1<=w) && decide (w<=15)else if k=3 then decide (w=8)else if k=4 then decide (1<=w) && decide (w<=254)else if k=5 then decide (w=8)else false
def zQn(f:Fld):Bool:=zXV f.name && zKY f.kind f.width
def zQT(p:Int):Bool:=decide (0<=p) && decide (p<=2)
def onB(b:UInt8)(p:Int):Bool:=if p=0 then decide (b.toNat<128)else if p=1 then true else decide (b.toNat<176) || (decide (224<=b.toNat) && decide (b.toNat<240))
def zXM(l:List UInt8)(p:Int):Bool:=l.all λb=>onB b p
def zXd(l:List Fld):Nat:=((l.filter (·.null)).length+7) / 8
def zX0(l:List Fld):Int:=1+(zXd l:Int)+(l.map (·.width)).sum
def zQG(l:List Fld):Int:=if l=[]∨l.all zQn=false then 1 else if ¬(l.map (·.name)).Nodup then 5 else if 16<l.length∨2000<zX0 l then 3 else 0
def okN(k n:Int):Bool:=if k=0 then decide (n=0)else if k=1 then decide (n=0) || decide (n=1)else if k=2 then decide (-1000000000000000<=n) && decide (n<=1000000000000000)else if k=3 then decide (0<=n) && decide (n<=3652059)else if k=4 then decide (n=0)else false
def zXc(v:Val):Int:=if 2048<v.s.size then 3 else if okN v.kind v.n && (decide (v.kind=4) || decide (v.s.size=0))then 0 else 1
def zZr(n:Nat):List UInt8:=if h:n<10 then [UInt8.ofNat (48+n)]else zZr (n / 10) ++ [UInt8.ofNat (48+n % 10)]
 termination_by n
 decreasing_by omega
def zZ7(n:Int):List UInt8:=if n<0 then 45 :: zZr n.natAbs else zZr n.natAbs
def zZo(l:List UInt8):List UInt8:=(l.reverse.dropWhile (· == 32)).reverse
def zVc(n:Int):Bool:=decide (0<=n) && decide (n<=99999999)
def zQM(f:Fld)(p:Int)(v:Val):Bool:=
 if zXc v ≠ 0 then false else if v.kind=0 then f.null else if f.kind=5 then decide (v.kind=2) && zVc v.n else if v.kind ≠ f.kind then false
 else if f.kind=2 then decide (((zZ7 v.n).length:Int)<=f.width)else if f.kind=4 then decide ((v.s.size:Int)<=f.width) && decide (zZo v.s.data.toList=v.s.data.toList) && zXM v.s.data.toList p else true
def zXt(f:Fld):Val:=if f.kind=5 then⟨2,0,⟨#[]⟩⟩else⟨f.kind,0,⟨#[]⟩⟩
def zZ4(f:Fld)(p:Int)(v:Val):Val × Int:=
 if v.kind=0 then(if f.null then(v,0)else(noV,7))else if v.kind ≠ (zXt f).kind then(noV,6)
 else if f.kind=4 then(if zXM (zZo (v.s.data.toList.take f.width.toNat)) p then(⟨4,0,bs (zZo (v.s.data.toList.take f.width.toNat))⟩,0)else(noV,10))
 else if zQM f p v then(v,0)else(noV,10)
def zKk(f:Fld)(p:Int)(v:Val):Val × Int:=if zQn f && zQT p then(if zXc v ≠ 0 then(noV,zXc v)else zZ4 f p v)else(noV,1)
def zQA(l:List Fld)(p:Int)(r:Rec):Int:=if r.v.length ≠ l.length then 10 else if (l.zip r.v).all (λx=>zQM x.1 p x.2)then 0 else 1
def zXr(l:List Fld)(p:Int):List Rec->Int
 | []=>0
 | r :: rs=>if zQA l p r ≠ 0 then zQA l p r else zXr l p rs
def zQi(t:Tbl):Int:=if zQT t.page then(if zQG t.fields ≠ 0 then zQG t.fields else if 300<t.recs.length then 3 else zXr t.fields t.page t.recs)else 1
end Go.Proofs.YtaeecpjhfmcliaaGreatDoor
/- Table: values, names, fields, pages: which are right. No condition. -/
set_option maxRecDepth 100000
namespace Go.Proofs.YtaeecpjhfmcliaaGreatDoor
open Go.Sh Go.RowKit Tryz
theorem zXC(s:ByteArray):(s.toList == (⟨#[]⟩:ByteArray).toList)=decide (s.size=0):=by
 rw[←beq_toListBytes,zZk]
 by_cases h:s.size=0
 ·have:s=⟨#[]⟩:=by
   obtain⟨⟨l⟩⟩:=s
   cases l with
   | nil=>rfl
   | cons a l=>simp[ByteArray.size]at h
  simp[this]
  rfl
 ·have:s ≠ ⟨#[]⟩:=λe=>h (by rw[e];rfl)
  simp[this,h]
theorem alB {w:World} {c:Array Value} {e:TypeId} {K:Nat->World->Prop} (h:∀w1,Pu w w1->w1.heap[w.heap.size]?=some (.cells c e)->K w.heap.size w1):alE (.cells c e) w K:=
 h _ (Pu.alloc w _) (zXH w _)
theorem cl {w:World} {r:Nat} {c:Array Value} {e:TypeId} {f:Nat × Nat} (h:w.heap[r]?=some (.cells c e f)) (o:Nat):w.cell? ((⟨r,0,none⟩:Addr).add o)=c[o]?:=by rw[zQr,zQF h,Nat.zero_add]
theorem cl0 {w:World} {r:Nat} {c:Array Value} {e:TypeId} {f:Nat × Nat} (h:w.heap[r]?=some (.cells c e f)):w.cell? (⟨r,0,none⟩:Addr)=c[0]?:=zQF h 0
theorem zQC {a b:Int} (h:(a == b)=true):a=b:=by simpa using h
theorem zQm {a b:Int} (h:(a == b)=false):a ≠ b:=by simpa using h
theorem zQ5 {a b:Int} (h:(a != b)=true):a ≠ b:=by simpa using h
theorem zQs {a b:Int} (h:(a != b)=false):a=b:=by simpa using h
theorem yVg(n:Int)(w:World):Calls prog 153 #[.int .i64 n] w λe w'=>e=.returned (.bool (decide (-1000000000000000<=n) && decide (n<=1000000000000000)))/\Pu w w':=by
 refine yW4 _ w _ (Br.of (λd=>?_) (λd=>?_))
 ·exact⟨by rw[decide_eq_true (show -1000000000000000<=n from zQk d)];rfl,Pu.refl w⟩
 ·exact⟨by rw[decide_eq_false (show ¬ -1000000000000000<=n from zQd d)];rfl,Pu.refl w⟩
theorem xKV(n:Int)(w:World):Calls prog 167 #[.int .i64 n] w λe w'=>e=.returned (.bool (decide (-1000000000000000<=n) && decide (n<=1000000000000000)))/\Pu w w':=by
 refine yKU _ w _ (Br.of (λd=>?_) (λd=>?_))
 ·exact⟨by rw[decide_eq_true (show -1000000000000000<=n from zQk d)];rfl,Pu.refl w⟩
 ·exact⟨by rw[decide_eq_false (show ¬ -1000000000000000<=n from zQd d)];rfl,Pu.refl w⟩
theorem yZi(n:Int)(w:World):Calls prog 191 #[.int .i64 n] w λe w'=>e=.returned (.bool (decide (0<=n) && decide (n<=3652059)))/\Pu w w':=by
 refine yKq _ w _ (Br.of (λd=>?_) (λd=>?_))
 ·exact⟨by rw[decide_eq_true (show 0<=n from zQk d)];rfl,Pu.refl w⟩
 ·exact⟨by rw[decide_eq_false (show ¬0<=n from zQd d)];rfl,Pu.refl w⟩
def zXS(v:Val):Bool:=okN v.kind v.n && (decide (v.kind=4) || decide (v.s.size=0))
theorem yY4(v:Val)(w:World):Calls prog 147 #[.agg #[.int .i64 v.kind,.int .i64 v.n,.string v.s]] w λe w'=>e=.returned (.bool (zXS v))/\Pu w w':=by
 refine yWl _ _ _ w _ ?_
 refine alB λw1 hp hb=>?_
 have fin:(v.kind=4->v.n=0)->(v.kind ≠ 4->v.s.size=0)->zYO (λe w'=>e=.returned (.bool (zXS v))/\Pu w w') (some (⟨w.heap.size,0,none⟩:Addr)) v.kind [] w1:=λh4 hs=>by
  have e:zXS v=okN v.kind v.n:=by
   unfold zXS
   by_cases h:v.kind=4 <;> simp[h,hs]
  refine Br.of (λd=>?_) (λd=>Br.of (λd1=>?_) (λd1=>Br.of (λd2=>?_) (λd2=>Br.of (λd3=>?_) (λd3=>?_))))
  ·have d:=zQC d
   refine⟨_,cl hb 1,by rw[e,okN,if_pos d];rfl,hp⟩
  ·have d:=zQm d
   have d1:=zQC d1
   refine⟨_,cl hb 1,Br.of (λd2=>?_) (λd2=>⟨_,cl hb 1,?_,hp⟩)⟩
   ·have d2:=zQC d2
    refine⟨by rw[e,okN,if_neg d,if_pos d1,d2];rfl,hp⟩
   ·have d2:=zQm d2
    rw[e,okN,if_neg d,if_pos d1,decide_eq_false d2];rfl
  ·have d:=zQm d
   have d1:=zQm d1
   have d2:=zQC d2
   refine⟨_,cl hb 1,(yVg v.n w1).mono ?_⟩
   rintro e' w2 ⟨rfl,ar⟩
   exact⟨_,rfl,by rw[e,okN,if_neg d,if_neg d1,if_pos d2],hp.trans ar⟩
  ·have d:=zQm d
   have d1:=zQm d1
   have d2:=zQm d2
   have d3:=zQC d3
   refine⟨_,cl hb 1,(yZi v.n w1).mono ?_⟩
   rintro e' w2 ⟨rfl,ar⟩
   exact⟨_,rfl,by rw[e,okN,if_neg d,if_neg d1,if_neg d2,if_pos d3],hp.trans ar⟩
  ·have d:=zQm d
   have d1:=zQm d1
   have d2:=zQm d2
   have d3:=zQm d3
   refine⟨_,cl0 hb,?_,hp⟩
   rw[e,okN,if_neg d,if_neg d1,if_neg d2,if_neg d3]
   by_cases h:v.kind=4
   ·simp[h,h4 h]
   ·simp[h]
 have bad:zXS v=false->(Ending.returned (Value.bool false)=Ending.returned (Value.bool (zXS v))/\Pu w w1):=λh=>⟨by rw[h],hp⟩
 refine⟨_,cl0 hb,Br.of (λd=>⟨_,cl hb 2,?_⟩) (λd=>?_)⟩
 ·have d:=zQ5 d
  rw[zXC]
  refine Br.of (λd1=>?_) (λd1=>⟨_,cl0 hb,Br.of (λd2=>absurd (zQC d2) d) (λd2=>?_)⟩)
  ·exact bad (by simp at d1;simp[zXS,d,d1])
  ·exact⟨_,cl0 hb,fin (λh=>absurd h d) (λ_=>by simpa using d1)⟩
 ·have d:=zQs d
  refine⟨_,cl0 hb,Br.of (λd1=>⟨_,cl hb 1,?_⟩) (λd1=>absurd d (zQm d1))⟩
  refine Br.of (λd2=>?_) (λd2=>⟨_,cl0 hb,fin (λ_=>zQs d2) (λh=>absurd d h)⟩)
  exact bad (by have:=zQ5 d2;simp[zXS,okN,d,this])
theorem zZg(v:Val):zXc v=if 2048<v.s.size then 3 else if zXS v then 0 else 1:=rfl
theorem yVZ(v:Val)(w:World):Calls prog 117 #[.agg #[.int .i64 v.kind,.int .i64 v.n,.string v.s]] w λe w'=>e=.returned (.int .i64 (zXc v))/\Pu w w':=by
 refine yJT _ _ _ w _ ?_
 refine alB λw1 hp hb=>⟨v.s,cl hb 2,Br.of (λd=>?_) (λd=>?_)⟩
 ·have:2048<v.s.size:=by have:=zQk d;omega
  exact⟨by rw[zZg,if_pos this],hp⟩
 ·have hn:¬2048<v.s.size:=by have:=zQd d;omega
  refine⟨_,cl hb 0,_,cl hb 1,_,cl hb 2,(yY4 v w1).mono ?_⟩
  rintro e w2 ⟨rfl,ar⟩
  refine⟨_,rfl,Br.of (λd1=>?_) (λd1=>?_)⟩
  ·have d1:zXS v=false:=by simpa using d1
   exact⟨by rw[zZg,if_neg hn,d1];rfl,hp.trans ar⟩
  ·have d1:zXS v=true:=by simpa using d1
   exact⟨by rw[zZg,if_neg hn,d1];rfl,hp.trans ar⟩
theorem xQF(v:Val)(w:World):Calls prog 132 #[.agg #[.int .i64 v.kind,.int .i64 v.n,.string v.s]] w λe w'=>e=.returned (.int .i64 (zXc v))/\Pu w w':=by
 refine yWr _ _ _ w _ ?_
 refine alB λw1 hp hb=>⟨v.s,cl hb 2,Br.of (λd=>?_) (λd=>?_)⟩
 ·have:2048<v.s.size:=by have:=zQk d;omega
  exact⟨by rw[zZg,if_pos this],hp⟩
 ·have hn:¬2048<v.s.size:=by have:=zQd d;omega
  have fin:∀{b:Bool} {w2:World},b=okN v.kind v.n->Pu w1 w2->zKp (λe w'=>e=.returned (.int .i64 (zXc v))/\Pu w w') (some (⟨w.heap.size,0,none⟩:Addr)) b [] w2:=λ{b w2} h ar=>by
   subst h
   have e1:zXc v=if zXS v then 0 else 1:=by rw[zZg,if_neg hn]
   have aN:=ar.blk hb
   refine Br.of (λd1=>?_) (λd1=>⟨_,cl0 aN,Br.of (λd2=>⟨_,cl aN 2,?_⟩) (λd2=>?_)⟩)
   ·exact⟨by rw[e1,zXS,show okN v.kind v.n=false by simpa using d1];rfl,hp.trans ar⟩
   ·have d1:okN v.kind v.n=true:=by simpa using d1
    have d2:=zQ5 d2
    rw[zXC]
    refine Br.of (λd3=>?_) (λd3=>?_)
    ·exact⟨by simp at d3;rw[e1];simp[zXS,d1,d2,d3],hp.trans ar⟩
    ·exact⟨by simp at d3;rw[e1];simp[zXS,d1,d2,d3],hp.trans ar⟩
   ·have d1:okN v.kind v.n=true:=by simpa using d1
    exact⟨by rw[e1,zXS,d1,zQs d2];rfl,hp.trans ar⟩
  refine⟨_,cl0 hb,Br.of (λd0=>⟨_,cl hb 1,fin ?_ (Pu.refl _)⟩) (λd0=>Br.of (λd1=>⟨_,cl hb 1,Br.of (λd2=>fin ?_ (Pu.refl _)) (λd2=>⟨_,cl hb 1,fin ?_ (Pu.refl _)⟩)⟩) (λd1=>Br.of (λd2=>⟨_,cl hb 1,(xKV v.n w1).mono ?_⟩)
   (λd2=>Br.of (λd3=>⟨_,cl hb 1,Br.of (λd4=>⟨_,cl hb 1,fin ?_ (Pu.refl _)⟩) (λd4=>fin ?_ (Pu.refl _))⟩) (λd3=>Br.of (λd4=>⟨_,cl hb 1,fin ?_ (Pu.refl _)⟩) (λd4=>fin ?_ (Pu.refl _))))))⟩
  ·rw[okN,if_pos (zQC d0)];rfl
  ·rw[okN,if_neg (zQm d0),if_pos (zQC d1),zQC d2];rfl
  ·rw[okN,if_neg (zQm d0),if_pos (zQC d1),decide_eq_false (zQm d2)];rfl
  ·rintro e' w2 ⟨rfl,ar⟩
   exact⟨_,rfl,fin (by rw[okN,if_neg (zQm d0),if_neg (zQm d1),if_pos (zQC d2)]) ar⟩
  ·rw[okN,if_neg (zQm d0),if_neg (zQm d1),if_neg (zQm d2),if_pos (zQC d3),decide_eq_true (show 0<=v.n from zQk d4)];rfl
  ·rw[okN,if_neg (zQm d0),if_neg (zQm d1),if_neg (zQm d2),if_pos (zQC d3),decide_eq_false (show ¬0<=v.n from zQd d4)];rfl
  ·rw[okN,if_neg (zQm d0),if_neg (zQm d1),if_neg (zQm d2),if_neg (zQm d3),if_pos (zQC d4)];rfl
  ·rw[okN,if_neg (zQm d0),if_neg (zQm d1),if_neg (zQm d2),if_neg (zQm d3),if_neg (zQm d4)]
end Go.Proofs.YtaeecpjhfmcliaaGreatDoor
/- Table: names, fields and pages: which are right. No condition. -/
namespace Go.Proofs.YtaeecpjhfmcliaaGreatDoor
open Go.Sh Go.RowKit Tryz
structure K5 where
 letter:Int
 least:Int
 most:Int
 wr:Nat
 rd:Nat
def zV0(k:K5):Value:=.agg #[.int .u8 k.letter,.int .i64 k.least,.int .i64 k.most,.func (.func k.wr) #[] #[],.func (.func k.rd) #[] #[]]
abbrev xQq(n:Int):Value:=.int .i64 n
def zXQ:List (Int × K5):=[(1,⟨76,1,1,180,181⟩),(2,⟨78,1,15,182,183⟩),(3,⟨68,8,8,184,185⟩),(4,⟨67,1,254,186,187⟩),(5,⟨77,8,8,188,189⟩)]
theorem xWd:prog.underlying 176=some (.map 3 174):=by kernel_rfl
theorem yKF:yZX prog 3 xQq:=xQG (q:=.i64) (by kernel_rfl)
theorem z102(w:World):(zeroValue 174).run prog w=.ok (.agg #[.int .u8 0,.int .i64 0,.int .i64 0,.nilFunc,.nilFunc]) w:=Tryz.zeroValue174 w
theorem zW1(w:World):Calls prog 145 #[] w λe w'=>∃b,e=.returned (.map (some b))/\zXv w' xQq zV0 b zXQ/\w.heap.size<=b/\Pu w w':=by
 refine yWk w _ ?_
 refine zVD λw1 gT=>?_
 have hp:Pu w w1:=by rw[gT];exact Pu.alloc w _
 have hm:zXv w1 xQq zV0 w.heap.size ([]:List (Int × K5)):=by rw[gT];exact zXv.new w _ _
 obtain⟨w2,e2,h2,f2,_⟩:=hm.upd yKF xWd 1 ⟨76,1,1,180,181⟩
 obtain⟨w3,e3,h3,f3,_⟩:=h2.upd yKF xWd 2 ⟨78,1,15,182,183⟩
 obtain⟨w4,e4,h4,f4,_⟩:=h3.upd yKF xWd 3 ⟨68,8,8,184,185⟩
 obtain⟨w5,e5,h5,f5,_⟩:=h4.upd yKF xWd 4 ⟨67,1,254,186,187⟩
 obtain⟨w6,e6,h6,f6,_⟩:=h5.upd yKF xWd 5 ⟨77,8,8,188,189⟩
 refine⟨w2,e2,w3,e3,w4,e4,w5,e5,w6,e6,w.heap.size,rfl,h6,Nat.le_refl _,?_⟩
 have n:∀i,i=w.heap.size->w.heap.size<=i:=λi h=>by omega
 exact((((hp.andNew f2 n).andNew f3 n).andNew f4 n).andNew f5 n).andNew f6 n
def zQU(k:Int):Option K5:=AL.get zXQ k
theorem zKP{w:World}{b:Nat}(h:zXv w xQq zV0 b zXQ)(k:Int)(ok:Bool):(Instr.lookup 176 (.map (some b)) (.int .i64 k) ok).run prog w =
  .ok (if ok then .tuple #[(zQU k).elim (.agg #[.int .u8 0,.int .i64 0,.int .i64 0,.nilFunc,.nilFunc]) zV0,.bool (zQU k).isSome]else(zQU k).elim (.agg #[.int .u8 0,.int .i64 0,.int .i64 0,.nilFunc,.nilFunc]) zV0) w:=
 h.look yKF xWd (z102 w) k ok
theorem zJo(k:Int):(k=1/\zQU k=some ⟨76,1,1,180,181⟩)∨(k=2/\zQU k=some ⟨78,1,15,182,183⟩)∨(k=3/\zQU k=some ⟨68,8,8,184,185⟩)∨(k=4/\zQU k=some ⟨67,1,254,186,187⟩)∨(k=5/\zQU k=some ⟨77,8,8,188,189⟩)∨(k ≠ 1/\k ≠ 2/\k ≠ 3/\k ≠ 4/\k ≠ 5/\zQU k=none):=by
 by_cases h1:k=1
 ·subst h1;exact .inl ⟨rfl,rfl⟩
 by_cases h2:k=2
 ·subst h2;exact .inr (.inl ⟨rfl,rfl⟩)
 by_cases h3:k=3
 ·subst h3;exact .inr (.inr (.inl ⟨rfl,rfl⟩))
 by_cases h4:k=4
 ·subst h4;exact .inr (.inr (.inr (.inl ⟨rfl,rfl⟩)))
 by_cases h5:k=5
 ·subst h5;exact .inr (.inr (.inr (.inr (.inl ⟨rfl,rfl⟩))))
 ·refine .inr (.inr (.inr (.inr (.inr ⟨h1,h2,h3,h4,h5,?_⟩))))
  simp[zQU,zXQ,AL.get,h1,h2,h3,h4,h5,Ne.symm h1,Ne.symm h2,Ne.symm h3,Ne.symm h4,Ne.symm h5]
def xWs:List UInt8:=[65,66,67,68,69,70,71,72,73,74,75,76,77,78,79,80,81,82,83,84,85,86,87,88,89,90,48,49,50,51,52,53,54,55,56,57,95]
theorem xKP(b:UInt8):xWs.contains b=(zWs b || zXL b || decide (b.toNat=95)):=by
 have h:∀n:Nat,n<256->xWs.contains (UInt8.ofNat n)=(zWs (UInt8.ofNat n) || zXL (UInt8.ofNat n) || decide ((UInt8.ofNat n).toNat=95)):=by decide +kernel
 have:=h b.toNat b.toNat_lt
 rwa [UInt8.ofNat_toNat]at this
theorem zXN{α:Type}(p:α->Bool):∀l:List α,l.dropWhile p=[] ↔ l.all p=true
 | []=>by simp
 | a :: l=>by
  by_cases h:p a=true
  ·rw[List.dropWhile_cons,if_pos h,zXN p l];simp[h]
  ·simp[List.dropWhile,h]
theorem zXK{α:Type}(p:α->Bool):∀l:List α,(l.dropWhile p).all p=true ↔ l.all p=true
 | []=>by simp
 | a :: l=>by
  by_cases h:p a=true
  ·simp only[List.dropWhile_cons,h,if_pos,List.all_cons,Bool.true_and]
   exact zXK p l
  ·simp[List.dropWhile,h]
theorem yXz(l cs:List UInt8):Lib.trimS l cs=[] ↔ l.all (cs.contains ·)=true:=by
 unfold Lib.trimS Lib.trimLeftS Lib.trimRightS
 rw[zXN]
 have:((l.reverse.dropWhile (cs.contains ·)).reverse).all (cs.contains ·)=(l.reverse.dropWhile (cs.contains ·)).all (cs.contains ·):=List.all_reverse
 rw[this,zXK,List.all_reverse]
theorem u110:(prog.info? 181).map (λi=>(i.zero,i.size))=some (some (.agg (Array.replicate 256 (.bool false))),256):=by kernel_rfl
theorem trim_c(s:ByteArray)(hs:s.size<=9223372036854775807)(w:World):Calls prog 190 #[.string s,.string ⟨#[65,66,67,68,69,70,71,72,73,74,75,76,77,78,79,80,81,82,83,84,85,86,87,88,89,90,48,49,50,51,52,53,54,55,56,57,95]⟩] w
  λe w'=>e=.returned (.string ⟨(Lib.trimS s.data.toList xWs).toArray⟩)/\Pu w w':=
 Any.strings_Trim_laid Tryz.lays160 u110 s ⟨#[65,66,67,68,69,70,71,72,73,74,75,76,77,78,79,80,81,82,83,84,85,86,87,88,89,90,48,49,50,51,52,53,54,55,56,57,95]⟩ w hs (by decide) (ascii_of_all (by decide))
theorem zK7{s:ByteArray}{k:Nat}(h:k<s.size):∃b,s[k]?=some b/\s.data.toList[k]?=some b:=by
 refine⟨s[k],by simp[h],?_⟩
 have:k<s.data.toList.length:=by simpa using h
 rw[List.getElem?_eq_getElem this]
 rfl
theorem zVU {s:ByteArray} {k:Nat} {b:UInt8} (h:s.data.toList[k]?=some b):s[k]?=some b:=by
 have hk:k<s.size:=by have:=(List.getElem?_eq_some_iff.1 h).1;simpa using this
 obtain⟨c,h1,h2⟩:=zK7 hk
 rw[h2]at h
 rw[h1];exact h
theorem xXr(s:ByteArray)(hs:s.size<=140737488355328)(w:World):Calls prog 146 #[.string s] w λe w'=>e=.returned (.bool (zXV s))/\Pu w w':=by
 refine yWd _ w _ ?_
 have no:∀{w2:World},Pu w w2->zXV s=false->(Ending.returned (Value.bool false)=Ending.returned (Value.bool (zXV s))/\Pu w w2):=λh1 h2=>⟨by rw[h2],h1⟩
 rw[xQe,zXC]
 refine Br.of (λd0=>Br.of (λd1=>(trim_c s (by omega) w).mono ?_) (λd1=>no (Pu.refl _) ?_)) (λd0=>no (Pu.refl _) ?_)
 ·rintro e w2 ⟨rfl,ar⟩
  have d0:¬s.size=0:=by simpa using d0
  have d1:s.size<=10:=by have:=zQk d1;omega
  refine⟨_,rfl,?_⟩
  have e2:((ByteArray.mk (Lib.trimS s.data.toList xWs).toArray).toList == (⟨#[]⟩:ByteArray).toList)=s.data.toList.all (λb=>zWs b || zXL b || decide (b.toNat=95)):=by
   rw[zXC]
   have h1:((ByteArray.mk (Lib.trimS s.data.toList xWs).toArray).size=0) ↔ s.data.toList.all (xWs.contains ·)=true:=by
    rw[←yXz];simp[ByteArray.size]
   rw[show(λb:UInt8=>zWs b || zXL b || decide (b.toNat=95))=(xWs.contains ·)from funext λb=>(xKP b).symm]
   rw[Bool.eq_iff_iff,decide_eq_true_iff];exact h1
  rw[e2]
  have en:zXV s=(s.data.toList.all (λb=>zWs b || zXL b || decide (b.toNat=95)) && (s.data.toList.take 1).all zWs):=by
   unfold zXV;rw[decide_eq_true (show 1<=s.size by omega),decide_eq_true d1];simp only[Bool.true_and]
  obtain⟨b,aE,aN⟩:=zK7 (s:=s) (k:=0) (by omega)
  have ht:s.data.toList.take 1=[b]:=by
   cases hl:s.data.toList with
   | nil=>rw[hl]at aN;simp at aN
   | cons a r=>rw[hl]at aN;simp at aN;simp[aN]
  refine Br.of (λd2=>⟨b,by omega,aE,Br.of (λd3=>⟨b,by omega,aE,?_,ar⟩) (λd3=>?_)⟩) (λd2=>?_)
  ·have d3:=zQk d3
   rw[en,d2,ht]
   simp only[List.all_cons,List.all_nil,Bool.and_true,Bool.true_and,zWs]
   rw[decide_eq_true (show 65<=b.toNat by omega)]
   simp only[Bool.true_and]
   congr 3
   exact propext (by omega)
  ·have d3:=zQd d3
   refine no ar ?_
   rw[en,d2,ht]
   simp only[List.all_cons,List.all_nil,Bool.and_true,Bool.true_and,zWs]
   rw[decide_eq_false (show ¬65<=b.toNat by omega)];rfl
  ·exact no ar (by rw[en,d2];rfl)
 ·have:=zQd d1
  unfold zXV;rw[decide_eq_false (show ¬s.size<=10 by omega)];simp
 ·have:s.size=0:=by simpa using d0
  unfold zXV;rw[this];rfl
theorem yV6(b:UInt8)(w:World):Calls prog 166 #[.int .u8 ((b.toNat:Nat):Int)] w λe w'=>e=.returned (.bool (zXL b))/\Pu w w':=by
 refine yWw _ w _ (Br.of (λd=>?_) (λd=>?_))
 ·refine⟨?_,Pu.refl w⟩
  unfold zXL;have:=zQk d;rw[decide_eq_true (show 48<=b.toNat by omega),Bool.true_and]
  congr 2;simp only[decide_eq_decide];omega
 ·refine⟨?_,Pu.refl w⟩
  unfold zXL;have:=zQd d;rw[decide_eq_false (show ¬48<=b.toNat by omega)];rfl
theorem zJc {α:Type} (p:α->Bool) {l:List α} {k:Nat} {x:α} (h:l[k]?=some x):(l.take (k+1)).all p=((l.take k).all p && p x):=by
 rw[zQ8 h,List.all_append];simp
theorem yYg(s:ByteArray)(w:World):Calls prog 130 #[.string s] w λe w'=>e=.returned (.bool (zXV s))/\Pu w w':=by
 refine yKW _ w _ (Br.of (λd0=>⟨?_,Pu.refl _⟩) (λd0=>Br.of (λd1=>⟨?_,Pu.refl _⟩) (λd1=>?_)))
 ·have:=zQk d0
  unfold zXV;rw[decide_eq_false (show ¬1<=s.size by omega)];rfl
 ·have:=zQk d1
  unfold zXV;rw[decide_eq_false (show ¬s.size<=10 by omega)];simp
 have d0:=zQd d0
 have d1:=zQd d1
 have en:zXV s=(s.data.toList.all (λb=>zWs b || zXL b || decide (b.toNat=95)) && (s.data.toList.take 1).all zWs):=by
  unfold zXV;rw[decide_eq_true (show 1<=s.size by omega),decide_eq_true (show s.size<=10 by omega)];simp only[Bool.true_and]
 refine zQ0 s.size (λk t w'=>t=(k:Int)/\Pu w w'/\(s.data.toList.take k).all (λb=>zWs b || zXL b || decide (b.toNat=95))=true/\((s.data.toList.take k).take 1).all zWs=true) ⟨rfl,Pu.refl _,rfl,rfl⟩ ?_
 rintro k J t w2 hk ⟨ht,ar,ha,hf⟩ hJ
 obtain rfl:t=(k:Int):=ht
 refine Br.of (λd2=>?_) (λd2=>?_)
 ·have hks:k<s.size:=by have:=zQk d2;omega
  obtain⟨b,aE,aN⟩:=zK7 hks
  have hu:=b.toNat_lt
  have go:∀{w3:World},Pu w2 w3->(zWs b || zXL b || decide (b.toNat=95))=true->(k=0->zWs b=true)->zWm (λe w'=>e=.returned (.bool (zXV s))/\Pu w w') J s (k:Int) [] w3:=λ{w3} aA h1 h2=>by
   show J (IntKind.i64.wrap ((k:Int)+1)) w3
   rw[zQa (by omega) (by omega)]
   refine hJ _ _ hks ⟨by omega,ar.trans aA,?_,?_⟩
   ·rw[zJc _ aN,ha,h1];rfl
   ·by_cases h0:k=0
    ·subst h0;rw[zQ8 aN];simp[h2 rfl]
    ·have:((s.data.toList.take (k+1)).take 1)=(s.data.toList.take k).take 1:=by rw[List.take_take,List.take_take];congr 1;omega
     rw[this];exact hf
  have no:∀{w3:World},Pu w2 w3->((zWs b || zXL b || decide (b.toNat=95))=false∨(k=0/\zWs b=false))->(Ending.returned (Value.bool false)=Ending.returned (Value.bool (zXV s))/\Pu w w3):=λ{w3} aA h=>by
   refine⟨?_,ar.trans aA⟩
   have hm:b ∈ s.data.toList:=List.mem_of_getElem? aN
   rcases h with h|⟨h0,h⟩
   ·have:s.data.toList.all (λb=>zWs b || zXL b || decide (b.toNat=95))=false:=by
     rw[List.all_eq_false];exact⟨b,hm,by rw[h];simp⟩
    rw[en,this];rfl
   ·subst h0
    have:(s.data.toList.take 1).all zWs=false:=by rw[zQ8 aN];simp[h]
    rw[en,this];simp
  refine⟨b,by omega,by rw[zZc];exact aE,?_⟩
  have tail:zWs b=false->Br ((k:Int) == 0) (Ending.returned (Value.bool false)=Ending.returned (Value.bool (zXV s))/\Pu w w2) (Br (((b.toNat:Nat):Int) != 95) (Calls prog 166 #[.int .u8 ((b.toNat:Nat):Int)] w2 λe w3=>∃oN:Bool,e=.returned (.bool oN)/\Br (!oN) (Ending.returned (Value.bool false)=Ending.returned (Value.bool (zXV s))/\Pu w w3) (zWm (λe w'=>e=.returned (.bool (zXV s))/\Pu w w') J s (k:Int) [] w3)) (zWm (λe w'=>e=.returned (.bool (zXV s))/\Pu w w') J s (k:Int) [] w2)):=λhc=>by
   refine Br.of (λd3=>no (Pu.refl _) (.inr ⟨by have:=zQC d3;omega,hc⟩)) (λd3=>Br.of (λd4=>(yV6 b w2).mono ?_) (λd4=>go (Pu.refl _) ?_ (λh=>absurd (by omega) (zQm d3))))
   ·rintro e w3 ⟨rfl,aA⟩
    refine⟨_,rfl,Br.of (λd5=>no aA (.inl ?_)) (λd5=>go aA ?_ (λh=>absurd (by omega) (zQm d3)))⟩
    ·have d5:zXL b=false:=by simpa using d5
     have d4:=zQ5 d4
     rw[hc,d5,decide_eq_false (by omega)];rfl
    ·have d5:zXL b=true:=by simpa using d5
     rw[d5];simp
   ·have:=zQs d4
    rw[decide_eq_true (show b.toNat=95 by omega)];simp
  refine Br.of (λd3=>Br.of (λd4=>?_) (λd4=>go (Pu.refl _) ?_ (λ_=>?_))) (λd3=>?_)
  ·refine tail ?_
   have d4:¬((b.toNat:Nat):Int)<=90:=by simpa using d4
   unfold zWs;rw[decide_eq_false (show ¬b.toNat<=90 by omega)];simp
  ·have d3:=zQk d3
   have d4:((b.toNat:Nat):Int)<=90:=by simpa using d4
   unfold zWs;rw[decide_eq_true (show b.toNat<=90 by omega),decide_eq_true (show 65<=b.toNat by omega)];rfl
  ·have d3:=zQk d3
   have d4:((b.toNat:Nat):Int)<=90:=by simpa using d4
   unfold zWs;rw[decide_eq_true (show b.toNat<=90 by omega),decide_eq_true (show 65<=b.toNat by omega)];rfl
  ·refine tail ?_
   have d3:=zQd d3
   unfold zWs;rw[decide_eq_false (show ¬65<=b.toNat by omega)];simp
 ·have aG:k=s.size:=by have:=zQd d2;omega
  refine⟨?_,ar⟩
  rw[aG,show s.size=s.data.toList.length by simp,List.take_length]at ha hf
  rw[en,ha,hf];rfl
end Go.Proofs.YtaeecpjhfmcliaaGreatDoor
/- Table: fields and pages: which are right; empty values. No condition. -/
namespace Go.Proofs.YtaeecpjhfmcliaaGreatDoor
open Go.Sh Go.RowKit Tryz
theorem zZl{p q:Prop}[Decidable p][Decidable q](h:p ↔ q):decide p=decide q:=by simp[h]
abbrev yQ9(f:Fld):Value:=.agg #[.string f.name,.int .i64 f.kind,.int .i64 f.width,.bool f.null]
abbrev zWt(v:Val):Value:=.agg #[.int .i64 v.kind,.int .i64 v.n,.string v.s]
theorem yZI(n:Int)(w:World):Calls prog 116 #[.int .i64 n] w λe w'=>e=.returned (.bool (zQT n))/\Pu w w':=by
 refine yKH _ w _ (Br.of (λd=>?_) (λd=>?_))
 ·exact⟨by rw[zQT,decide_eq_true (show 0<=n from zQk d)];rfl,Pu.refl w⟩
 ·exact⟨by rw[zQT,decide_eq_false (show ¬0<=n from zQd d)];rfl,Pu.refl w⟩
theorem yWH(n:Int)(w:World):Calls prog 52 #[.int .i64 n] w λe w'=>e=.returned (.bool (zQT n))/\Pu w w':=by
 refine yYo _ w _ (Br.of (λd=>?_) (λd=>?_))
 ·exact⟨by rw[zQT,decide_eq_true (show 0<=n from zQk d)];rfl,Pu.refl w⟩
 ·exact⟨by rw[zQT,decide_eq_false (show ¬0<=n from zQd d)];rfl,Pu.refl w⟩
theorem yVw(k:Int):∃n a b x y,(zQU k).elim (.agg #[.int .u8 0,.int .i64 0,.int .i64 0,.nilFunc,.nilFunc]) zV0=.agg #[.int .u8 n,.int .i64 a,.int .i64 b,x,y]/\zYX x=true/\zYX y=true/\
  (zQU k).isSome=decide (k=1∨k=2∨k=3∨k=4∨k=5)/\((zQU k).isSome=true->∀m:Int,zKY k m=(decide (a<=m) && decide (m<=b))):=by
 rcases zJo k with⟨rfl,h⟩|⟨rfl,h⟩|⟨rfl,h⟩|⟨rfl,h⟩|⟨rfl,h⟩|⟨h1,h2,h3,h4,h5,h⟩
 ·rw[h];refine⟨_,_,_,_,_,rfl,rfl,rfl,rfl,λ_ m=>?_⟩
  show decide (m=1)=(decide (1<=m) && decide (m<=1))
  rw[←Bool.decide_and];exact zZl (by omega)
 ·rw[h];exact⟨_,_,_,_,_,rfl,rfl,rfl,rfl,λ_ m=>rfl⟩
 ·rw[h];refine⟨_,_,_,_,_,rfl,rfl,rfl,rfl,λ_ m=>?_⟩
  show decide (m=8)=(decide (8<=m) && decide (m<=8))
  rw[←Bool.decide_and];exact zZl (by omega)
 ·rw[h];exact⟨_,_,_,_,_,rfl,rfl,rfl,rfl,λ_ m=>rfl⟩
 ·rw[h];refine⟨_,_,_,_,_,rfl,rfl,rfl,rfl,λ_ m=>?_⟩
  show decide (m=8)=(decide (8<=m) && decide (m<=8))
  rw[←Bool.decide_and];exact zZl (by omega)
 ·rw[h];exact⟨_,_,_,_,_,rfl,rfl,rfl,by simp[h1,h2,h3,h4,h5],λhn=>by simp at hn⟩
theorem zY3 {k:Int} (h:(zQU k).isSome=false) (m:Int):zKY k m=false:=by
 rcases zJo k with⟨rfl,h1⟩|⟨rfl,h1⟩|⟨rfl,h1⟩|⟨rfl,h1⟩|⟨rfl,h1⟩|⟨h1,h2,h3,h4,h5,_⟩
 ·rw[h1]at h;simp at h
 ·rw[h1]at h;simp at h
 ·rw[h1]at h;simp at h
 ·rw[h1]at h;simp at h
 ·rw[h1]at h;simp at h
 ·unfold zKY;rw[if_neg h1,if_neg h2,if_neg h3,if_neg h4,if_neg h5]
theorem xWp{n a b:Int}{x y:Value}(hx:zYX x=true)(hy:zYX y=true):(#[.int .u8 n,.int .i64 a,.int .i64 b,x,y]:Array Value).toList.all zYX=true:=by
 show([.int .u8 n,.int .i64 a,.int .i64 b,x,y]:List Value).all zYX=true
 simp only[List.all_cons,List.all_nil,hx,hy];rfl
theorem s102:zXq prog 174=5:=by kernel_rfl
theorem s25:zXq prog 73=3:=by kernel_rfl
theorem s23:zXq prog 129=4:=by kernel_rfl
theorem yQO(f:Fld)(hs:f.name.size<=140737488355328)(w:World):Calls prog 115 #[yQ9 f] w λe w'=>e=.returned (.bool (zQn f))/\Pu w w':=by
 refine yK9 _ _ _ _ w _ ?_
 refine alB λw1 ax aE=>zQf λw2 ar hh2=>?_
 have cT:=ax.trans ar
 refine⟨λw'=>Pu w2 w',Pu.refl _,f.kind,λw' hw'=>hw'.cell (ar.cell (cl aE 1)),?_⟩
 obtain⟨n,a,b,x,y,hk,hx,hy,hsome,hkw⟩:=yVw f.kind
 have main:∀{w3 w4:World} {r:Nat},Pu w1 w3->w3.heap[r]?=some (.cells #[.int .u8 n,.int .i64 a,.int .i64 b,x,y] 174)->Pu w w3->
   yJa (λe w'=>e=.returned (.bool (zQn f))/\Pu w w') (some (⟨w.heap.size,0,none⟩:Addr)) (some (⟨r,0,none⟩:Addr)) (zQU f.kind).isSome [] w3:=λ{w3 w4 r} q1 q2 q3=>by
  have no:∀{w5:World},Pu w w5->zQn f=false->(Ending.returned (Value.bool false)=Ending.returned (Value.bool (zQn f))/\Pu w w5):=λh1 h2=>⟨by rw[h2],h1⟩
  have bo:=q1.blk aE
  refine Br.of (λd=>⟨f.name,cl0 bo,(xXr f.name hs w3).mono ?_⟩) (λd=>no q3 ?_)
  ·rintro e w5 ⟨rfl,aV⟩
   have bi:=aV.blk bo
   have hr5:=aV.blk q2
   refine⟨_,rfl,Br.of (λd1=>⟨_,cl bi 2,_,cl hr5 1,Br.of (λd2=>⟨_,cl bi 2,_,cl hr5 2,?_,q3.trans aV⟩) (λd2=>no (q3.trans aV) ?_)⟩) (λd1=>no (q3.trans aV) ?_)⟩
   ·unfold zQn;rw[d1,hkw d,decide_eq_true (show a<=f.width from zQk d2)];rfl
   ·unfold zQn;rw[d1,hkw d,decide_eq_false (show ¬a<=f.width from zQd d2)];rfl
   ·unfold zQn;rw[d1];rfl
  ·unfold zQn;rw[zY3 d];simp
 have hlook:∀{m:Nat} {w':World},zXv w' xQq zV0 m zXQ->(Instr.lookup 176 (.map (some m)) (.int .i64 f.kind) true).run prog w'=.ok (.tuple #[.agg #[.int .u8 n,.int .i64 a,.int .i64 b,x,y],.bool (zQU f.kind).isSome]) w':=λ{m w'} hm=>by
  rw[zKP hm,hk];rfl
 constructor
 ·refine(zW1 w2).mono ?_
  rintro e w3 ⟨m,rfl,hm,_,aA⟩
  refine⟨some m,rfl,λw'=>Pu w3 w',Pu.refl _,λu hu=>aA.trans hu,n,a,b,x,y,(zQU f.kind).isSome,λw' hw'=>hlook (hm.pu hw'),?_⟩
  refine alB λw4 aJ cA=>⟨λw'=>Pu w3 w',aJ,λu hu=>hu,?_⟩
  refine zQh cA s102.symm rfl (xWp hx hy) λw5 bi cr kG=>?_
  have bL:Pu w3 w5:=aJ.andNew cr λi hi=>by omega
  exact main (w4:=w4) ((ar.trans aA).trans bL) bi (cT.trans (aA.trans bL))
 ·refine alB λw4 aJ cA=>⟨λw'=>Pu w4 w',Pu.refl _,λu hu=>aJ.trans hu,?_⟩
  refine(zW1 w4).mono ?_
  rintro e w3 ⟨m,rfl,hm,_,aA⟩
  refine⟨some m,rfl,λw'=>Pu w3 w',Pu.refl _,λu hu=>aA.trans hu,n,a,b,x,y,(zQU f.kind).isSome,λw' hw'=>hlook (hm.pu hw'),?_⟩
  refine zQh (aA.blk cA) s102.symm rfl (xWp hx hy) λw5 bi cr kG=>?_
  have jQ:Pu w2 w5:=(aJ.trans aA).andNew cr λi hi=>by omega
  exact main (w4:=w4) (ar.trans jQ) bi (cT.trans jQ)
theorem yKM(f:Fld)(w:World):Calls prog 91 #[yQ9 f] w λe w'=>e=.returned (.bool (zQn f))/\Pu w w':=by
 refine yYQ _ _ _ _ w _ ?_
 refine alB λw1 ax aE=>⟨_,cl0 aE,(yYg f.name w1).mono ?_⟩
 rintro e w2 ⟨rfl,ar⟩
 have aN:=ar.blk aE
 have q2:=ax.trans ar
 have out:∀{b:Bool},b=zQn f->(Ending.returned (Value.bool b)=Ending.returned (Value.bool (zQn f))/\Pu w w2):=λh=>⟨by rw[h],q2⟩
 have two:∀{lo hi:Int},(zXV f.name=true->zKY f.kind f.width=(decide (lo<=f.width) && decide (f.width<=hi)))->zXV f.name=true->
   Br (decide (f.width >= lo)) (∃n:Int,w2.cell? ((⟨w.heap.size,0,none⟩:Addr).add 2)=some (.int .i64 n)/\(Ending.returned (Value.bool (decide (n<=hi)))=Ending.returned (Value.bool (zQn f))/\Pu w w2)) (Ending.returned (Value.bool false)=Ending.returned (Value.bool (zQn f))/\Pu w w2):=λ{lo hi} h h0=>
  Br.of (λd=>⟨_,cl aN 2,out (by unfold zQn;rw[h0,h h0,decide_eq_true (show lo<=f.width from zQk d)];rfl)⟩) (λd=>out (by unfold zQn;rw[h0,h h0,decide_eq_false (show ¬lo<=f.width from zQd d)];rfl))
 refine⟨_,rfl,Br.of (λd=>out ?_) (λd=>?_)⟩
 ·have:zXV f.name=false:=by simpa using d
  unfold zQn;rw[this];rfl
 have hn:zXV f.name=true:=by simpa using d
 have ef:zQn f=zKY f.kind f.width:=by unfold zQn;rw[hn];rfl
 refine⟨_,cl aN 1,Br.of (λd1=>⟨_,cl aN 2,out ?_⟩) (λd1=>Br.of (λd2=>⟨_,cl aN 2,two ?_ hn⟩) (λd2=>Br.of (λd3=>Br.of (λd4=>⟨_,cl aN 2,out ?_⟩) (λd4=>?_)) (λd3=>Br.of (λd4=>⟨_,cl aN 2,out ?_⟩) (λd4=>Br.of (λd5=>⟨_,cl aN 2,two ?_ hn⟩) (λd5=>out ?_)))))⟩
 ·rw[ef,zQC d1];show(f.width == 1)=decide (f.width=1);simp[BEq.beq]
 ·intro _;rw[zQC d2];rfl
 ·rw[ef,zQC d3];show(f.width == 8)=decide (f.width=8);simp[BEq.beq]
 ·exact absurd (zQC d3) (zQm d4)
 ·rw[ef,zQC d4];show(f.width == 8)=decide (f.width=8);simp[BEq.beq]
 ·intro _;rw[zQC d5];rfl
 ·rw[ef];unfold zKY;rw[if_neg (zQm d1),if_neg (zQm d2),if_neg (zQm d3),if_neg (zQm d5),if_neg (zQm d4)]
theorem yWQ(f:Fld)(w:World):Calls prog 118 #[yQ9 f] w λe w'=>e=.returned (zWt (zXt f))/\Pu w w':=by
 refine yKb _ _ _ _ w _ ?_
 refine alB λw1 ax aE=>alB λw2 ar aN=>⟨_,cl (ar.blk aE) 1,Br.of (λd=>?_) (λd=>⟨_,cl (ar.blk aE) 1,?_⟩)⟩
 ·refine zQh aN s25.symm rfl rfl λw3 bo fU ng=>?_
  have bg:Pu w w3:=ax.trans (ar.andNew fU λi hi=>by omega)
  exact⟨_,cl bo 0,_,cl bo 1,_,cl bo 2,by unfold zXt;rw[if_pos (zQC d)],bg⟩
 ·refine zQh aN s25.symm rfl rfl λw3 bo fU ng=>?_
  have bg:Pu w w3:=ax.trans (ar.andNew fU λi hi=>by omega)
  exact⟨_,cl bo 0,_,cl bo 1,_,cl bo 2,by unfold zXt;rw[if_neg (zQm d)],bg⟩
end Go.Proofs.YtaeecpjhfmcliaaGreatDoor
/- Table: numbers in digits; blanks at a text's end. No condition. -/
namespace Go.Proofs.YtaeecpjhfmcliaaGreatDoor
open Go.Sh Go.RowKit Tryz
theorem zZT(a b:List UInt8):bs a ++ bs b=bs (a ++ b):=zQI (by simp[bs])
theorem zZM(a b:ByteArray):a ++ b=bs (a.data.toList ++ b.data.toList):=zQI (by simp[bs])
theorem zQ6(s:ByteArray)(i j:Nat):(s.extract i j).data.toList=(s.data.toList.take j).drop i:=by
 rw[ByteArray.data_extract,Array.toList_extract,List.extract_eq_take_drop,List.drop_take]
theorem zVk:∀k:Nat,k<10->(⟨#[48,49,50,51,52,53,54,55,56,57]⟩:ByteArray).extract k (k+1)=bs [UInt8.ofNat (48+k)]:=by
 intro k hk
 apply zQI
 rw[zQ6,zQH]
 match k,hk with
 | 0,_=>rfl
 | 1,_=>rfl
 | 2,_=>rfl
 | 3,_=>rfl
 | 4,_=>rfl
 | 5,_=>rfl
 | 6,_=>rfl
 | 7,_=>rfl
 | 8,_=>rfl
 | 9,_=>rfl
theorem zXG{n:Nat}(h:n<10):zZr n=[UInt8.ofNat (48+n)]:=by rw[zZr,dif_pos h]
theorem zZn{n:Nat}(h:¬n<10):zZr n=zZr (n / 10) ++ [UInt8.ofNat (48+n % 10)]:=by rw[zZr,dif_neg h]
theorem zJZ(n:Nat):(zZr n).length<=n+1:=by
 induction n using Nat.strongRecOn with
 | _ n ih=>
  by_cases h:n<10
  ·rw[zXG h];simp
  ·rw[zZn h]
   have:=ih (n / 10) (by omega)
   simp only[List.length_append,List.length_singleton];omega
theorem yQc(n:Nat):1<=(zZr n).length:=by
 by_cases h:n<10
 ·rw[zXG h];simp
 ·rw[zZn h];simp
theorem zKb(n:Nat):∀b ∈ zZr n,48<=b.toNat/\b.toNat<=57:=by
 induction n using Nat.strongRecOn with
 | _ n ih=>
  have one:∀k,k<10->48<=(UInt8.ofNat (48+k)).toNat/\(UInt8.ofNat (48+k)).toNat<=57:=λk hk=>by simp;omega
  by_cases h:n<10
  ·rw[zXG h];intro b hb;simp only[List.mem_singleton]at hb;subst hb;exact one n h
  ·rw[zZn h];intro b hb
   rcases List.mem_append.1 hb with hb|hb
   ·exact ih (n / 10) (by omega) b hb
   ·simp only[List.mem_singleton]at hb;subst hb;exact one _ (by omega)
theorem yZW:∀(n:Nat),n<=4611686018427387904->∀w:World,Calls prog 154 #[.int .i64 (n:Int)] w λe w'=>e=.returned (.string (bs (zZr n)))/\Pu w w':=by
 intro n
 induction n using Nat.strongRecOn with
 | _ n ih=>
  intro hn w
  refine zYR _ w _ (Br.of (λd=>absurd (zQk d) (by omega)) (λd=>Br.of (λd1=>?_) (λd1=>zQf λw4 aJ _=>?_)))
  ·have d1:n<10:=by have:=zQk d1;omega
   rw[zQa (by omega) (by omega)]
   refine⟨by omega,?_,by omega,by omega,?_,Pu.refl w⟩
   ·show _<=10;omega
   ·rw[zZc,show((n:Int)+1).toNat=n+1 by omega,zVk n d1,zXG d1]
  ·have d1:¬n<10:=by have:=zQd d1;omega
   have e1:((n:Int).tmod 10)=((n % 10:Nat):Int):=by rw[Int.tmod_eq_emod_of_nonneg (by omega)];omega
   have e2:((n:Int).tdiv 10)=((n / 10:Nat):Int):=by rw[Int.tdiv_eq_ediv_of_nonneg (by omega)];omega
   rw[e1,e2,zQa (by omega) (by omega),zQa (by omega) (by omega)]
   have e3:(((n % 10:Nat):Int)+1).toNat=n % 10+1:=by omega
   rw[e3,zZc,zVk (n % 10) (by omega)]
   refine⟨rfl,by omega,rfl,by omega,rfl,by omega,by omega,?_,by omega,by omega,(ih (n / 10) (by omega) (by omega) w4).mono ?_⟩
   ·show _<=10;omega
   rintro e w5 ⟨rfl,aV⟩
   refine⟨_,rfl,?_,?_,aJ.trans aV⟩
   ·rw[zQ3,zQ3];have:=zJZ (n / 10);simp only[List.length_singleton];omega
   ·rw[zZT,zZn d1]
theorem zJX(n:Nat):zZ7 (n:Int)=zZr n:=by unfold zZ7;rw[if_neg (by omega)];rfl
theorem zVg{n:Int}(h:n<0):zZ7 n=45 :: zZr n.natAbs:=by unfold zZ7;rw[if_pos h]
theorem dec_c{n:Int}(h1:-4611686018427387904<=n)(h2:n<=4611686018427387904)(w:World):Calls prog 154 #[.int .i64 n] w λe w'=>e=.returned (.string (bs (zZ7 n)))/\Pu w w':=by
 by_cases h:n<0
 ·refine zYR _ w _ (Br.of (λd=>?_) (λd=>absurd h (zQd d)))
  rw[zQa (by omega) (by omega)]
  have e:(0 - n:Int)=((n.natAbs:Nat):Int):=by omega
  rw[e]
  refine(yZW n.natAbs (by omega) w).mono ?_
  rintro e w2 ⟨rfl,hp⟩
  refine⟨_,rfl,?_,?_,hp⟩
  ·have e4:=zQ3 (zZr n.natAbs);have:=zJZ n.natAbs;show(((1+(bs (zZr n.natAbs)).size:Nat)):Int)<=_;omega
  ·rw[zVg h];exact congrArg (λx=>Ending.returned (Value.string x)) (zZT [45] _)
 ·obtain⟨k,rfl⟩:∃k:Nat,n=k:=⟨n.toNat,by omega⟩
  rw[zJX]
  exact yZW k (by omega) w
theorem zWT:∀(n:Nat),n<=9223372036854775807->∀w:World,Calls prog 134 #[.int .i64 (n:Int)] w λe w'=>e=.returned (.string (bs (zZr n)))/\Pu w w':=by
 intro n
 induction n using Nat.strongRecOn with
 | _ n ih=>
  intro hn w
  refine zYU _ w _ (Br.of (λd=>absurd (zQk d) (by omega)) (λd=>Br.of (λd1=>?_) (λd1=>?_)))
  ·have d1:n<10:=by have:=zQk d1;omega
   rw[zQa (by omega) (by omega)]
   refine⟨by omega,?_,by omega,by omega,?_,Pu.refl w⟩
   ·show _<=10;omega
   ·rw[zZc,show((n:Int)+1).toNat=n+1 by omega,zVk n d1,zXG d1]
  ·have d1:¬n<10:=by have:=zQd d1;omega
   have e1:((n:Int).tmod 10)=((n % 10:Nat):Int):=by rw[Int.tmod_eq_emod_of_nonneg (by omega)];omega
   have e2:((n:Int).tdiv 10)=((n / 10:Nat):Int):=by rw[Int.tdiv_eq_ediv_of_nonneg (by omega)];omega
   rw[e1,e2,zQa (by omega) (by omega)]
   refine⟨rfl,by omega,(ih (n / 10) (by omega) (by omega) w).mono ?_⟩
   rintro e w5 ⟨rfl,aV⟩
   refine⟨_,rfl,rfl,by omega,(ih (n % 10) (by omega) (by omega) w5).mono ?_⟩
   rintro e w6 ⟨rfl,bV⟩
   refine⟨_,rfl,?_,?_,aV.trans bV⟩
   ·rw[zQ3,zQ3];have:=zJZ (n / 10);have:=zJZ (n % 10);omega
   ·rw[zZT,zZn d1,zXG (show n % 10<10 by omega)]
theorem yVP:zZ7 (-9223372036854775808)=[45,57,50,50,51,51,55,50,48,51,54,56,53,52,55,55,53,56,48,56]:=by decide +kernel
theorem yYp{n:Int}(hn:zZZ n)(w:World):Calls prog 134 #[.int .i64 n] w λe w'=>e=.returned (.string (bs (zZ7 n)))/\Pu w w':=by
 obtain⟨h1,h2⟩:=hn
 by_cases h:n<0
 ·refine zYU _ w _ (Br.of (λd=>Br.of (λd1=>?_) (λd1=>?_)) (λd=>absurd h (zQd d)))
  ·rw[zQC d1,yVP];exact⟨rfl,Pu.refl w⟩
  have d1:=zQm d1
  rw[zQa (by omega) (by omega)]
  have e:(0 - n:Int)=((n.natAbs:Nat):Int):=by omega
  rw[e]
  refine(zWT n.natAbs (by omega) w).mono ?_
  rintro e w2 ⟨rfl,hp⟩
  have hl:(zZr n.natAbs).length<9223372036854775807:=by
   by_cases nA:n.natAbs<10
   ·rw[zXG nA];simp
   ·rw[zZn nA];have:=zJZ (n.natAbs / 10);simp only[List.length_append,List.length_singleton];omega
  refine⟨_,rfl,?_,?_,hp⟩
  ·have e4:=zQ3 (zZr n.natAbs);show(((1+(bs (zZr n.natAbs)).size:Nat)):Int)<=_;omega
  ·rw[zVg h];exact congrArg (λx=>Ending.returned (Value.string x)) (zZT [45] _)
 ·obtain⟨k,rfl⟩:∃k:Nat,n=k:=⟨n.toNat,by omega⟩
  rw[zJX]
  exact zWT k (by omega) w
theorem zVL(b:UInt8):∀n,Lib.repeatL [b] n=List.replicate n b
 | 0=>rfl
 | n+1=>by rw[List.replicate_succ,←zVL b n];rfl
theorem zKe(b:UInt8)(n:Nat)(hn:n<=140737488355328)(w:World):Calls prog 155 #[.string ⟨#[b]⟩,.int .i64 (n:Int)] w λe w'=>e=.returned (.string (bs (List.replicate n b)))/\Pu w w':=by
 have h:=Any.strings_Repeat Tryz.lays105 Tryz.Builder_Extra_105 ⟨#[b]⟩ n w (by omega) (by show 1 * n<=_;omega)
 have e:Lib.repeatL (⟨#[b]⟩:ByteArray).data.toList n=List.replicate n b:=zVL b n
 rw[e]at h
 exact h
theorem zYf(s:ByteArray)(hs:s.size<=140737488355328)(w:World):Calls prog 119 #[.string s,.string ⟨#[32]⟩] w λe w'=>e=.returned (.string (bs (zZo s.data.toList)))/\Pu w w':=
 (Any.strings_TrimRight_one Tryz.lays162 s 32 (by decide) w (by omega)).mono λe w' ⟨h1,h2⟩=>⟨h1,h2 ▸ Pu.refl _⟩
theorem zKU(l:List UInt8)(b:UInt8):zZo (l ++ [b])=if b=32 then zZo l else l ++ [b]:=by
 unfold zZo
 rw[List.reverse_append,List.reverse_singleton,List.singleton_append,List.dropWhile_cons]
 by_cases h:b=32
 ·simp[h]
 ·simp[h]
theorem xKZ(s:ByteArray)(hs:s.size<=9223372036854775807)(w:World):Calls prog 135 #[.string s] w λe w'=>e=.returned (.string (bs (zZo s.data.toList)))/\Pu w w':=by
 refine yWn _ w _ ?_
 refine zQ0 s.size (λk t w'=>t=((s.size - k:Nat):Int)/\Pu w w'/\zZo s.data.toList=zZo (s.data.toList.take (s.size - k))) ⟨rfl,Pu.refl _,by rw[Nat.sub_zero,show s.size=s.data.toList.length by simp,List.take_length]⟩ ?_
 rintro k J t w2 hk ⟨ht,hp,hb⟩ hJ
 obtain rfl:t=((s.size - k:Nat):Int):=ht
 have fin:zZo (s.data.toList.take (s.size - k))=s.data.toList.take (s.size - k)->yX0 (λe w'=>e=.returned (.string (bs (zZo s.data.toList)))/\Pu w w') s ((s.size - k:Nat):Int) [] w2:=λh=>by
  refine⟨by omega,by rw[zZc];omega,by omega,?_,hp⟩
  rw[zZc,hb,h]
  congr 2
  exact zQI (by rw[zQ6,zQH];rfl)
 refine Br.of (λd=>?_) (λd=>fin ?_)
 ·have aG:k<s.size:=by have:=zQk d;omega
  rw[yX0]at fin
  have e1:((s.size - k:Nat):Int) - 1=((s.size - (k+1):Nat):Int):=by omega
  rw[e1,zQa (by omega) (by omega)]
  obtain⟨b,aE,aN⟩:=zK7 (s:=s) (k:=s.size - (k+1)) (by omega)
  have et:s.data.toList.take (s.size - k)=s.data.toList.take (s.size - (k+1)) ++ [b]:=by
   rw[show s.size - k=s.size - (k+1)+1 by omega,zQ8 aN]
  refine⟨b,by omega,by rw[zZc];exact aE,Br.of (λd1=>hJ _ _ aG ⟨rfl,hp,?_⟩) (λd1=>fin ?_)⟩
  ·have:b=32:=by have:=zQC d1;apply UInt8.toNat_inj.1;show b.toNat=32;omega
   rw[hb,et,zKU,if_pos this]
  ·have:¬b=32:=λh=>zQm d1 (by rw[h];rfl)
   rw[et,zKU,if_neg this]
 ·have:s.size - k=0:=by have:=zQd d;omega
  rw[this];rfl
end Go.Proofs.YtaeecpjhfmcliaaGreatDoor
/- Table: pages of characters; which texts a page has. No condition. -/
namespace Go.Proofs.YtaeecpjhfmcliaaGreatDoor
open Go.Sh Go.RowKit Tryz
def yZY(w:World)(r:Nat)(g:Nat->Bool):Prop:=∃c,w.heap[r]?=some (.cells c 213)/\c.size=768/\∀i,i<768->∃n:Int,c[i]?=some (.int .i32 n)/\decide (n<0)=g i
theorem yZY.ext{w:World}{r:Nat}{g g':Nat->Bool}(h:yZY w r g)(e:∀i,i<768->g i=g' i):yZY w r g':=
 let ⟨c,h1,h2,h3⟩:=h;⟨c,h1,h2,λi hi=>let ⟨n,h4,h5⟩:=h3 i hi;⟨n,h4,h5.trans (e i hi)⟩⟩
theorem yZY.fr{B:Nat->Prop}{w w':World}{r:Nat}{g:Nat->Bool}(h:yZY w r g)(hf:Fr B w w')(hn:¬B r):yZY w' r g:=
 let ⟨c,h1,h2⟩:=h;⟨c,hf.blk h1 hn,h2⟩
theorem yZY.st{w:World}{r:Nat}{g:Nat->Bool}(h:yZY w r g){j:Nat}(hj:j<768)(n:Int)(a:Addr)(ha:a=⟨r,j,none⟩){K:World->Prop}
  (hK:∀w',yZY w' r (λi=>if i=j then decide (n<0)else g i)->Fr (·=r) w w'->K w'):st1 a (.int .i32 n) w K:=by
 subst ha
 obtain⟨c,h1,h2,h3⟩:=h
 refine zQw h1 (by omega) λw' hw' hb'=>hK w' ⟨_,hb',by simp[h2],λi hi=>?_⟩ (by rw[hw'];exact Fr.cell w r j _)
 by_cases e:i=j
 ·subst e;exact⟨n,by simp[h2,hi],by simp⟩
 ·obtain⟨m,h4,h5⟩:=h3 i hi
  exact⟨m,by rw[Array.getElem?_setIfInBounds_ne (Ne.symm e)];exact h4,by simp[e,h5]⟩
theorem i32_in{n:Int}(h1:-2147483648<=n)(h2:n<=2147483647):IntKind.i32.wrap n=n:=Go.IntWalk.i32_in n ⟨h1,h2⟩
theorem xWi:zc prog 213=Array.replicate 768 (.int .i32 0):=by kernel_rfl
theorem s149:zXq prog 213=768:=by kernel_rfl
def sg1(k i:Nat):Bool:=decide ((128<=i/\i<k)∨(640<=i/\i<512+k))
def sg2(k i:Nat):Bool:=decide ((128<=i/\i<256)∨(512+k<=i/\i<768))
def sg3(k i:Nat):Bool:=decide ((128<=i/\i<256)∨(688<=i/\i<736)∨(512+k<=i/\i<768))
theorem ad1(r:Nat)(p k:Nat):(((⟨r,0,none⟩:Addr).add ((p:Int).toNat * 256)).add ((k:Int).toNat * 1))=⟨r,p * 256+k,none⟩:=by
 rw[zQr,zQr,zZc,zZc,Nat.zero_add,Nat.mul_one]
theorem xW7(w:World):Calls prog 196 #[] w λe w'=>∃c:Array Value,e=.returned (.agg c)/\c.size=768/\(∀i,i<768->∃n:Int,c[i]?=some (.int .i32 n)/\decide (n<0)=sg3 240 i)/\Pu w w':=by
 refine yKw w _ ?_
 refine alB λw1 ax aE=>alB λw2 ar aN=>?_
 have hw12:w.heap.size<w1.heap.size:=zQz aE
 have g0:yZY w2 w1.heap.size (sg1 0):=⟨_,aN,by rw[xWi];simp,λi hi=>⟨0,by rw[xWi];simp[hi],by unfold sg1;simp;omega⟩⟩
 -- the end
 have fin:∀{w3:World},yZY w3 w1.heap.size (sg3 240)->Fr (·=w1.heap.size) w2 w3->yYi (λe w'=>∃c:Array Value,e=.returned (.agg c)/\c.size=768/\(∀i,i<768->∃n:Int,c[i]?=some (.int .i32 n)/\decide (n<0)=sg3 240 i)/\Pu w w') (some (⟨w.heap.size,0,none⟩:Addr)) (some (⟨w1.heap.size,0,none⟩:Addr)) [] w3:=by
  intro w3 ⟨c,h1,h2,h3⟩ hf
  have bo:=hf.blk (ar.blk aE) (show ¬w.heap.size=w1.heap.size by omega)
  refine⟨c,h2,λi hi=>cl h1 i,?_⟩
  have ho:c.toList.all zYX=true:=by
   rw[List.all_eq_true]
   intro v hv
   obtain⟨i,hi,rfl⟩:=List.getElem_of_mem hv
   have hi':i<c.size:=by simpa using hi
   obtain⟨n,h4,_⟩:=h3 i (by omega)
   rw[Array.getElem?_eq_getElem hi']at h4
   have h4:=Option.some.inj h4
   rw[Array.getElem_toList,h4];rfl
  refine zQh bo (by rw[s149,h2]) (by rw[xWi,h2];simp) ho λw4 cA iv sK=>?_
  refine⟨c,h2,λi hi=>cl cA i,c,rfl,h2,h3,?_⟩
  have hpu:Pu w w3:=(ax.trans ar).andNew hf λi hi=>by have hi:i=w1.heap.size:=hi;omega
  exact hpu.andNew iv λi hi=>by have hi:i=w.heap.size:=hi;omega
 refine zQ0 256 (λk t w'=>t=(k:Int)/\yZY w' w1.heap.size (sg1 k)/\Fr (·=w1.heap.size) w2 w') ⟨rfl,g0,Fr.refl _ _⟩ ?_
 rintro k J t w3 hk ⟨ht,hg,hf⟩ hJ
 obtain rfl:t=(k:Int):=ht
 refine Br.of (λd=>?_) (λd=>?_)
 ·have aG:k<256:=by have:=zQk d;omega
  refine⟨by omega,by omega,by omega,by omega,?_⟩
  rw[i32_in (by omega) (by omega)]
  refine hg.st (j:=256+k) (by omega) (k:Int) _ (ad1 _ 1 k) λw4 hg4 iv=>?_
  rw[zQa (by omega) (by omega)]
  refine Br.of (λd1=>?_) (λd1=>?_)
  ·have d1:128<=k:=by have:=zQk d1;omega
   refine⟨by omega,by omega,by omega,by omega,hg4.st (j:=0+k) (by omega) (-1) _ (ad1 _ 0 k) λw5 rK cr=>⟨by omega,by omega,by omega,by omega,rK.st (j:=512+k) (by omega) (-1) _ (ad1 _ 2 k) λw6 yU gN=>?_⟩⟩
   refine hJ _ _ aG ⟨by omega,yU.ext λi hi=>?_,((hf.trans iv λ_ h _=>h).trans cr λ_ h _=>h).trans gN λ_ h _=>h⟩
   simp only[sg1]
   repeat' split
   all_goals first|(simp only[decide_eq_decide];omega)|(rw[eq_comm,decide_eq_true_iff];omega)|(rw[eq_comm];simp;omega)|(simp;omega)
  ·have d1:¬128<=k:=by have:=zQd d1;omega
   refine⟨by omega,by omega,by omega,by omega,hg4.st (j:=0+k) (by omega) (k:Int) _ (ad1 _ 0 k) λw5 rK cr=>⟨by omega,by omega,by omega,by omega,rK.st (j:=512+k) (by omega) (k:Int) _ (ad1 _ 2 k) λw6 yU gN=>?_⟩⟩
   refine hJ _ _ aG ⟨by omega,yU.ext λi hi=>?_,((hf.trans iv λ_ h _=>h).trans cr λ_ h _=>h).trans gN λ_ h _=>h⟩
   simp only[sg1]
   repeat' split
   all_goals first|(simp only[decide_eq_decide];omega)|(rw[eq_comm,decide_eq_true_iff];omega)|(rw[eq_comm];simp;omega)|(simp;omega)
 have aG:k=256:=by have:=zQd d;omega
 subst aG
 clear hJ J d
 refine zQ0 48 (λk t w'=>t=((128+k:Nat):Int)/\yZY w' w1.heap.size (sg2 (128+k))/\Fr (·=w1.heap.size) w2 w') ⟨rfl,hg.ext λi hi=>by unfold sg1 sg2;exact zZl (by omega),hf⟩ ?_
 rintro k J t w4 hk ⟨ht,hg,hf⟩ hJ
 obtain rfl:t=((128+k:Nat):Int):=ht
 refine Br.of (λd=>?_) (λd=>?_)
 ·have aG:k<48:=by have:=zQk d;omega
  refine⟨by omega,by omega,by omega,by omega,?_⟩
  rw[zQa (by omega) (by omega),i32_in (n:=((128+k:Nat):Int) - 128) (by omega) (by omega),i32_in (by omega) (by omega),zQa (by omega) (by omega)]
  refine hg.st (j:=512+(128+k)) (by omega) _ _ (ad1 _ 2 (128+k)) λw5 rK cr=>hJ _ _ aG ⟨by omega,rK.ext λi hi=>?_,hf.trans cr λ_ h _=>h⟩
  simp only[sg2]
  split
  ·rw[decide_eq_decide];omega
  ·simp only[decide_eq_decide];omega
 have aG:k=48:=by have:=zQd d;omega
 subst aG
 clear hJ J d
 refine zQ0 16 (λk t w'=>t=((224+k:Nat):Int)/\yZY w' w1.heap.size (sg3 (224+k))/\Fr (·=w1.heap.size) w2 w') ⟨rfl,hg.ext λi hi=>by unfold sg3 sg2;exact zZl (by omega),hf⟩ ?_
 rintro k J t w5 hk ⟨ht,hg,hf⟩ hJ
 obtain rfl:t=((224+k:Nat):Int):=ht
 refine Br.of (λd=>?_) (λd=>?_)
 ·have aG:k<16:=by have:=zQk d;omega
  refine⟨by omega,by omega,by omega,by omega,?_⟩
  rw[zQa (by omega) (by omega),i32_in (n:=((224+k:Nat):Int) - 224) (by omega) (by omega),i32_in (by omega) (by omega),zQa (by omega) (by omega)]
  refine hg.st (j:=512+(224+k)) (by omega) _ _ (ad1 _ 2 (224+k)) λw5 rK cr=>hJ _ _ aG ⟨by omega,rK.ext λi hi=>?_,hf.trans cr λ_ h _=>h⟩
  simp only[sg3]
  split
  ·rw[decide_eq_decide];omega
  ·simp only[decide_eq_decide];omega
 have aG:k=16:=by have:=zQd d;omega
 subst aG
 exact fin hg hf
theorem u149:prog.underlying 213=some (.array 3 212):=by kernel_rfl
theorem xQZ{cs:Array Value}{p:Nat}(hp:p<3)(w:World):(Instr.index 213 (.agg cs) (.int .i64 (p:Int))).run prog w=.ok (.agg (cs.extract (p * 256) (p * 256+256))) w:=by
 have h1:(part 212 cs (p * 256)).run prog w=.ok (.agg (cs.extract (p * 256) (p * 256+256))) w:=by
  unfold part
  have a:(isAgg 212).run prog w=.ok true w:=Tryz.isAgg212 w
  have s:(sizeOf 212).run prog w=.ok 256 w:=Tryz.sizeOf212 w
  simp only[Sem.run_bind,a,Result.andThen_ok,if_true,s,Sem.run_pure]
 have s:(sizeOf 212).run prog w=.ok 256 w:=Tryz.sizeOf212 w
 unfold Instr.index
 simp only[asIntOf,Sem.run_bind,Sem.run_pure,Result.andThen_ok,zQl u149]
 have h0:(0:Int)<=(p:Int)/\(p:Int)<((3:Nat):Int):=by omega
 rw[if_pos h0]
 simp only[Sem.run_bind,s,Result.andThen_ok,zZc,h1]
theorem xKU {w:World} {r:Nat} {s:ByteArray} (p:Int) (hb:w.heap[r]?=some (.cells #[.string s] 9)):Calls prog 195 #[.int .i64 p,.slice (some ⟨r,0,none⟩) 1 1] w λe w'=>e=.returned (.int .i64 (if 2048<s.size then 3 else if zQT p then 0 else 1))/\Pu w w':=by
 refine yKS _ ⟨some ⟨r,0,none⟩,1,1⟩ w _ ?_
 refine zQ0 1 (λk t w'=>t=(k:Int)/\w'=w/\(0<k->¬2048<s.size)) ⟨rfl,rfl,λh=>by omega⟩ ?_
 rintro k J t w2 hk ⟨ht,hw,hs⟩ hJ
 obtain rfl:t=(k:Int):=ht
 obtain rfl:w2=w:=hw
 refine Br.of (λd=>?_) (λd=>?_)
 ·have dg:k=0:=by have:=zQk d;dsimp only at this;omega
  subst dg
  refine⟨_,rfl,by omega,by dsimp only;omega,s,cl hb 0,Br.of (λd1=>?_) (λd1=>?_)⟩
  ·exact⟨by rw[if_pos (show 2048<s.size by have:=zQk d1;omega)],Pu.refl _⟩
  ·rw[zQa (by omega) (by omega)]
   exact hJ _ _ (by omega) ⟨rfl,rfl,λ_=>by have:=zQd d1;omega⟩
 ·have wk:k=1:=by have:=zQd d;dsimp only at this;omega
  subst wk
  rw[if_neg (hs (by omega))]
  refine Br.of (λd1=>?_) (λd1=>Br.of (λd2=>?_) (λd2=>?_))
  ·have:=zQk d1;exact⟨by rw[if_neg];simp[zQT];omega,Pu.refl _⟩
  ·have:=zQk d2;exact⟨by rw[if_neg];simp[zQT];omega,Pu.refl _⟩
  ·have:=zQd d1;have:=zQd d2;exact⟨by rw[if_pos];simp[zQT];omega,Pu.refl _⟩
theorem on_sg{b:UInt8}{p:Nat}(hp:p<3):sg3 240 (p * 256+b.toNat)=!onB b (p:Int):=by
 have:=b.toNat_lt
 unfold sg3 onB
 rcases(by omega:p=0∨p=1∨p=2)with rfl|rfl|rfl
 ·rw[if_pos (by rfl),←decide_not];exact zZl (by omega)
 ·rw[if_neg (by omega),if_pos (by rfl)];simp;omega
 ·rw[if_neg (by omega),if_neg (by omega),←Bool.decide_and,←Bool.decide_or,←decide_not];exact zZl (by omega)
theorem u9:prog.underlying 9=some .string:=by kernel_rfl
theorem u37:prog.underlying 22=some (.slice 5):=by kernel_rfl
theorem u5:prog.underlying 5=some (.int .u8):=by kernel_rfl
theorem s148:zXq prog 212=256:=by kernel_rfl
theorem zc148':zc prog 212=Array.replicate 256 (.int .i32 0):=by kernel_rfl
theorem zc148:(zc prog 212).size=256:=by rw[zc148'];simp
theorem yZe(s:ByteArray)(hs:s.size<=140737488355328)(p:Int)(w:World):Calls prog 152 #[.string s,.int .i64 p] w λe w'=>
  e=.returned (.tuple #[.bool (decide (s.size<=2048) && zQT p && zXM s.data.toList p),.int .i64 (if 2048<s.size then 3 else if zQT p then 0 else 1)])/\Pu w w':=by
 refine yWc _ _ w _ ?_
 refine alB λw1 ax aE=>(xKU p aE).mono ?_
 rintro e w2 ⟨rfl,ar⟩
 refine⟨_,rfl,Br.of (λd=>?_) (λd=>?_)⟩
 ·have d:=zQ5 d
  refine⟨?_,ax.trans ar⟩
  have:(decide (s.size<=2048) && zQT p)=false:=by
   by_cases h:2048<s.size
   ·rw[decide_eq_false (by omega)];rfl
   ·cases h2:zQT p
    ·simp
    ·rw[if_neg h,h2]at d;exact absurd rfl d
  rw[this];rfl
 have d:=zQs d
 have mw:¬2048<s.size:=λh=>by rw[if_pos h]at d;omega
 have hpg:zQT p=true:=by
  cases h2:zQT p
  ·rw[if_neg mw,h2]at d;simp at d
  ·rfl
 obtain⟨q,rfl,hq⟩:∃q:Nat,p=q/\q<3:=⟨p.toNat,by simp[zQT]at hpg;omega,by simp[zQT]at hpg;omega⟩
 refine(xW7 w2).mono ?_
 rintro e w3 ⟨c,rfl,hc,hn,aA⟩
 refine⟨c,hc,rfl,c.extract (q * 256) (q * 256+256),by simp[hc];omega,w3,xQZ hq w3,?_⟩
 have hat:∀i,i<256->∃n:Int,(c.extract (q * 256) (q * 256+256))[i]?=some (.int .i32 n)/\decide (n<0)=sg3 240 (q * 256+i):=λi hi=>by
  obtain⟨n,h1,h2⟩:=hn (q * 256+i) (by omega)
  refine⟨n,?_,h2⟩
  rw[Array.getElem?_extract,if_pos (by omega)]
  exact h1
 refine alB λw4 aJ cA=>zQh cA (by rw[s148];simp[hc];omega) (by rw[zc148];simp[hc];omega) ?_ λw5 bi cr kG=>?_
 ·rw[List.all_eq_true]
  intro v hv
  obtain⟨i,hi,rfl⟩:=List.getElem_of_mem hv
  have hi':i<(c.extract (q * 256) (q * 256+256)).size:=by rw[←Array.length_toList];exact hi
  obtain⟨n,h4,_⟩:=hat i (by rw[Array.size_extract]at hi';omega)
  rw[Array.getElem?_eq_getElem hi']at h4
  have h4:=Option.some.inj h4
  rw[Array.getElem_toList,h4];rfl
 have bL:Pu w3 w5:=aJ.andNew cr λi hi=>by have hi:i=w3.heap.size:=hi;omega
 obtain⟨l,w6,hcv,bV,hl⟩:=yWu (P:=prog) u9 u37 u5 s (by omega) w5
 have gi:=bV.blk bi
 have hlen:=hl.len
 have hlen2:s.data.toList.length=s.size:=by simp
 have e2:(decide (s.size<=2048) && zQT (q:Int) && zXM s.data.toList (q:Int))=zXM s.data.toList (q:Int):=by rw[hpg,decide_eq_true (by omega)];rfl
 refine⟨l,w6,hcv,zQ0 s.data.toList.length (λk t w'=>t=(k:Int)/\w'=w6/\zXM (s.data.toList.take k) (q:Int)=true) ⟨rfl,rfl,rfl⟩ ?_⟩
 rintro k J t w7 hk ⟨ht,hw7,htx⟩ hJ
 obtain rfl:t=(k:Int):=ht
 obtain rfl:w7=w6:=hw7
 have hpu:Pu w w7:=(((ax.trans ar).trans aA).trans bL).trans bV
 refine Br.of (λd1=>?_) (λd1=>?_)
 ·have aG:k<s.data.toList.length:=by have:=zQk d1;omega
  obtain⟨b,hb⟩:=zQZ aG
  obtain⟨a,ha,hi,hcell⟩:=hl.u8 hb
  have hbl:=b.toNat_lt
  obtain⟨n,wE,ta⟩:=hat b.toNat (by omega)
  refine⟨a,ha,by omega,by omega,_,by simpa using hcell,by omega,by omega,n,?_,?_⟩
  ·rw[zQr,zQF gi,Nat.zero_add,zZc,Nat.mul_one];exact wE
  rw[ta,on_sg hq]
  refine Br.of (λd2=>⟨?_,hpu⟩) (λd2=>?_)
  ·have d2:onB b (q:Int)=false:=by simpa using d2
   have:zXM s.data.toList (q:Int)=false:=by
    unfold zXM;rw[List.all_eq_false];exact⟨b,List.mem_of_getElem? hb,by rw[d2];simp⟩
   rw[e2,this,if_neg mw,hpg];rfl
  ·have d2:onB b (q:Int)=true:=by simpa using d2
   rw[zQa (by omega) (by omega)]
   exact hJ _ _ aG ⟨by omega,rfl,by unfold zXM at *;rw[zJc _ hb,htx,d2];rfl⟩
 ·have aG:k=s.data.toList.length:=by have:=zQd d1;omega
  rw[aG,List.take_length]at htx
  exact⟨by rw[e2,htx,if_neg mw,hpg];rfl,hpu⟩
theorem xQJ(s:ByteArray)(hs:s.size<=2048){p:Int}(hpg:zQT p=true)(w:World):Calls prog 120 #[.string s,.int .i64 p] w λe w'=>e=.returned (.bool (zXM s.data.toList p))/\Pu w w':=by
 refine yW2 _ _ w _ ((yZe s (by omega) p w).mono ?_)
 rintro e w2 ⟨rfl,hp⟩
 have e1:(decide (s.size<=2048) && zQT p && zXM s.data.toList p)=zXM s.data.toList p:=by rw[hpg,decide_eq_true hs];rfl
 refine⟨_,_,rfl,?_⟩
 rw[e1,if_neg (by omega),hpg]
 exact Br.of (λd=>⟨by rw[d];rfl,hp⟩) (λd=>⟨by rw[d],hp⟩)
theorem on_c(b:UInt8)(p:Int)(w:World):Calls prog 168 #[.int .u8 ((b.toNat:Nat):Int),.int .i64 p] w λe w'=>e=.returned (.bool (onB b p))/\Pu w w':=by
 have hu:=b.toNat_lt
 refine yKp _ _ w _ (Br.of (λd=>⟨?_,Pu.refl w⟩) (λd=>Br.of (λd1=>⟨?_,Pu.refl w⟩) (λd1=>Br.of (λd2=>⟨?_,Pu.refl w⟩) (λd2=>Br.of (λd3=>⟨?_,Pu.refl w⟩) (λd3=>⟨?_,Pu.refl w⟩)))))
 ·rw[onB,if_pos (zQC d)];congr 2;exact zZl (by omega)
 ·rw[onB,if_neg (zQm d),if_pos (zQC d1)]
 ·have:=zQk d2
  rw[onB,if_neg (zQm d),if_neg (zQm d1),decide_eq_true (show b.toNat<176 by omega)];rfl
 ·have:=zQd d2;have:=zQk d3
  rw[onB,if_neg (zQm d),if_neg (zQm d1),decide_eq_false (show ¬b.toNat<176 by omega),decide_eq_true (show 224<=b.toNat by omega),Bool.false_or,Bool.true_and];congr 2;exact zZl (by omega)
 ·have:=zQd d2;have:=zQd d3
  rw[onB,if_neg (zQm d),if_neg (zQm d1),decide_eq_false (show ¬b.toNat<176 by omega),decide_eq_false (show ¬224<=b.toNat by omega)];rfl
theorem yK0(s:ByteArray)(hs:s.size<=140737488355328)(p:Int)(w:World):Calls prog 136 #[.string s,.int .i64 p] w λe w'=>e=.returned (.bool (zXM s.data.toList p))/\Pu w w':=by
 refine yK2 _ _ w _ ?_
 refine zQ0 s.size (λk t w'=>t=(k:Int)/\Pu w w'/\zXM (s.data.toList.take k) p=true) ⟨rfl,Pu.refl _,rfl⟩ ?_
 rintro k J t w2 hk ⟨ht,hp,htx⟩ hJ
 obtain rfl:t=(k:Int):=ht
 refine Br.of (λd=>?_) (λd=>?_)
 ·have aG:k<s.size:=by have:=zQk d;omega
  obtain⟨b,aE,aN⟩:=zK7 aG
  refine⟨b,by omega,by rw[zZc];exact aE,(on_c b p w2).mono ?_⟩
  rintro e w3 ⟨rfl,aA⟩
  refine⟨_,rfl,Br.of (λd1=>⟨?_,hp.trans aA⟩) (λd1=>?_)⟩
  ·have d1:onB b p=false:=by simpa using d1
   have:zXM s.data.toList p=false:=by
    unfold zXM;rw[List.all_eq_false];exact⟨b,List.mem_of_getElem? aN,by rw[d1];simp⟩
   rw[this]
  ·have d1:onB b p=true:=by simpa using d1
   rw[zQa (by omega) (by omega)]
   exact hJ _ _ aG ⟨by omega,hp.trans aA,by unfold zXM at *;rw[zJc _ aN,htx,d1];rfl⟩
 ·have aG:k=s.data.toList.length:=by have:=zQd d;simp;omega
  rw[aG,List.take_length]at htx
  exact⟨by rw[htx],hp⟩
end Go.Proofs.YtaeecpjhfmcliaaGreatDoor
/- Table: what a value becomes in a field. No condition. -/
namespace Go.Proofs.YtaeecpjhfmcliaaGreatDoor
open Go.Sh Go.RowKit Tryz
theorem yYN(ts:Array TypeId)(r:TypeId)(k:IntKind)(a b:Int)(w:World):(Builtin.min_ ts r #[.int k a,.int k b]).run prog w=.ok (.int k (min a b)) w:=by
 rw[run_min_int2];congr 2;omega
theorem zKK{v:Val}(h:zXc v=0):v.s.size<=2048/\okN v.kind v.n=true/\(v.kind=4∨v.s.size=0):=by
 rw[zZg]at h
 by_cases h1:2048<v.s.size
 ·rw[if_pos h1]at h;omega
 ·rw[if_neg h1]at h
  cases h2:zXS v
  ·rw[h2]at h;simp at h
  ·unfold zXS at h2;simp at h2;exact⟨by omega,h2.1,h2.2.imp id λe=>by rw[e];rfl⟩
def xQp(n w:Int):List UInt8:=if w<(zZ7 n).length then List.replicate w.toNat 42 else List.replicate (w.toNat - (zZ7 n).length) 32 ++ zZ7 n
theorem str_c{n w:Int}(h1:-1000000000000000<=n/\n<=1000000000000000)(h2:1<=w/\w<=254)(W:World):Calls prog 121 #[.int .i64 n,.int .i64 w] W λe W'=>e=.returned (.tuple #[.string (bs (xQp n w)),.int .i64 0])/\Pu W W':=by
 refine yJZ _ _ W _ ((yVg n W).mono ?_)
 rintro e W1 ⟨rfl,ax⟩
 refine⟨_,rfl,?_⟩
 rw[decide_eq_true h1.1,decide_eq_true h1.2]
 refine Br.f rfl (Br.of (λd=>absurd (zQk d) (by omega)) (λ_=>Br.of (λd=>absurd (zQk d) (by omega)) (λ_=>(dec_c (by omega) (by omega) W1).mono ?_)))
 rintro e W2 ⟨rfl,ar⟩
 have es:=zQ3 (zZ7 n)
 refine⟨_,rfl,Br.of (λd=>?_) (λd=>?_)⟩
 ·have d:=zQk d
  have e1:w=((w.toNat:Nat):Int):=by omega
  rw[show(Value.int .i64 w)=.int .i64 ((w.toNat:Nat):Int)by rw[←e1]]
  refine(zKe 42 w.toNat (by omega) W2).mono ?_
  rintro e W3 ⟨rfl,aA⟩
  exact⟨_,rfl,by unfold xQp;rw[if_pos (by omega)],(ax.trans ar).trans aA⟩
 ·have d:=zQd d
  rw[yVv,zQa (by omega) (by omega)]
  have e1:w - (((bs (zZ7 n)).size:Nat):Int)=((w.toNat - (zZ7 n).length:Nat):Int):=by omega
  rw[e1]
  refine(zKe 32 _ (by omega) W2).mono ?_
  rintro e W3 ⟨rfl,aA⟩
  refine⟨_,rfl,?_,?_,(ax.trans ar).trans aA⟩
  ·rw[zQ3,zQ3];simp only[List.length_replicate];omega
  ·rw[zZT];unfold xQp;rw[if_neg (by omega)]
theorem xXe(s:ByteArray)(b:UInt8)(w:World):Calls prog 122 #[.string s,.string ⟨#[b]⟩] w λe w'=>e=.returned (.bool (decide (s.data.toList.head?=some b)))/\Pu w w':=
 (Any.strings_HasPrefix Tryz.lays99 s ⟨#[b]⟩ w).mono λe w' ⟨h1,h2⟩=>⟨by
  rw[h1];congr 2
  show Lib.hasPrefix s.data.toList [b]=_
  unfold Lib.hasPrefix
  cases s.data.toList with
  | nil=>rfl
  | cons a l=>
   rw[List.isPrefixOf_cons_cons,List.isPrefixOf_nil_left,Bool.and_true]
   by_cases h:b=a
   ·simp[h]
   ·simp[h,Ne.symm h],h2 ▸ Pu.refl _⟩
theorem yVd(n:Int):∃b l,zZ7 n=b :: l/\b ≠ 42:=by
 by_cases h:n<0
 ·exact⟨45,_,zVg h,by decide⟩
 ·have hn:zZ7 n=zZr n.natAbs:=by unfold zZ7;rw[if_neg h]
  cases hl:zZr n.natAbs with
  | nil=>have:=yQc n.natAbs;rw[hl]at this;simp at this
  | cons b l=>
   refine⟨b,l,by rw[hn,hl],λe=>?_⟩
   have:=zKb n.natAbs b (by rw[hl];simp)
   rw[e]at this;simp at this
theorem xQf{n w:Int}(h:1<=w):decide ((xQp n w).head?=some 42)=decide (w<(zZ7 n).length):=by
 obtain⟨b,l,hd,hb⟩:=yVd n
 unfold xQp
 by_cases h1:w<(zZ7 n).length
 ·rw[if_pos h1,decide_eq_true h1]
  obtain⟨k,hk⟩:∃k,w.toNat=k+1:=⟨w.toNat - 1,by omega⟩
  rw[hk,List.replicate_succ];simp
 ·rw[if_neg h1,decide_eq_false h1]
  cases hm:w.toNat - (zZ7 n).length with
  | zero=>rw[hd];simp[hb]
  | succ m=>simp[List.replicate_succ]
theorem retV {w:World} {r:Nat} {c:Array Value} (v:Val) (k:Int) {R:Rt} (hb:w.heap[r]?=some (.cells c 73)) (hc:c.size=3) (hR:∀w',Fr (·=r) w w'->R (.returned (.tuple #[zWt v,.int .i64 k])) w') :
  stA prog 73 (⟨r,0,none⟩:Addr) #[.int .i64 v.kind,.int .i64 v.n,.string v.s] w λw'=>∃n0:Int,w'.cell? ((⟨r,0,none⟩:Addr).add 0)=some (.int .i64 n0)/\∃n1:Int,w'.cell? ((⟨r,0,none⟩:Addr).add 1)=some (.int .i64 n1)/\
   ∃s2:ByteArray,w'.cell? ((⟨r,0,none⟩:Addr).add 2)=some (.string s2)/\R (.returned (.tuple #[.agg #[.int .i64 n0,.int .i64 n1,.string s2],.int .i64 k])) w':=
 zQh hb s25.symm (by rw[hc];rfl) rfl λw' hb' hf _=>⟨_,cl hb' 0,_,cl hb' 1,_,cl hb' 2,hR w' hf⟩
theorem zW9 {f:Fld} {p:Int} {v:Val} (h:(zQn f && zQT p)=false):zKk f p v=(noV,1):=by unfold zKk;rw[h];rfl
theorem zWR {f:Fld} {p:Int} {v:Val} (h:(zQn f && zQT p)=true) (h2:zXc v ≠ 0):zKk f p v=(noV,zXc v):=by unfold zKk;rw[h,if_pos rfl,if_pos h2]
theorem zKB {f:Fld} {p:Int} {v:Val} (h:(zQn f && zQT p)=true) (h2:zXc v=0):zKk f p v=zZ4 f p v:=by unfold zKk;rw[h,if_pos rfl,if_neg (by omega)]
theorem yQm{f:Fld}(h:zQn f=true)(hk:f.kind=4):1<=f.width/\f.width<=254:=by
 unfold zQn zKY at h;rw[hk]at h;simp at h;exact h.2
theorem xWw{f:Fld}(h:zQn f=true)(hk:f.kind=2):1<=f.width/\f.width<=15:=by
 unfold zQn zKY at h;rw[hk]at h;simp at h;exact h.2
theorem xQu(l:List UInt8)(w:Int)(n:Nat)(hn:l.length=n)(hw:0<=w):l.take (min (n:Int) w).toNat=l.take w.toNat:=by
 by_cases h:(n:Int)<=w
 ·rw[show(min (n:Int) w).toNat=n by omega,List.take_of_length_le (by omega),List.take_of_length_le (by omega)]
 ·rw[show min (n:Int) w=w by omega]
theorem yZo(l:List UInt8):(zZo l).length<=l.length:=by
 unfold zZo
 have h:=List.IsSuffix.length_le (List.dropWhile_suffix (· == (32:UInt8)) (l:=l.reverse))
 simpa using h
theorem fit_c(f:Fld)(p:Int)(v:Val)(hs:f.name.size<=140737488355328)(w:World):Calls prog 83 #[yQ9 f,.int .i64 p,zWt v] w λe w'=>
  e=.returned (.tuple #[zWt (zKk f p v).1,.int .i64 (zKk f p v).2])/\Pu w w':=by
 refine yV8 _ _ _ _ _ _ _ _ w _ ?_
 refine alB λw1 ax aE=>alB λw2 ar aN=>alB λw3 aA bo=>?_
 have z1:w1.heap.size<=w2.heap.size:=ar.size
 have z0:w.heap.size<=w1.heap.size:=ax.size
 have l1:w.heap.size<w1.heap.size:=zQz aE
 have l2:w1.heap.size<w2.heap.size:=zQz aN
 have aZ:Pu w w3:=(ax.trans ar).trans aA
 -- a value and a code are handed back
 have out:∀{wz:World} (v':Val) (k:Int) {c:Array Value},Pu w wz->wz.heap[w2.heap.size]?=some (.cells c 73)->c.size=3->zKk f p v=(v',k)->
   stA prog 73 (⟨w2.heap.size,0,none⟩:Addr) #[.int .i64 v'.kind,.int .i64 v'.n,.string v'.s] wz λw'=>∃n0:Int,w'.cell? ((⟨w2.heap.size,0,none⟩:Addr).add 0)=some (.int .i64 n0)/\∃n1:Int,w'.cell? ((⟨w2.heap.size,0,none⟩:Addr).add 1)=some (.int .i64 n1)/\
    ∃s2:ByteArray,w'.cell? ((⟨w2.heap.size,0,none⟩:Addr).add 2)=some (.string s2)/\(Ending.returned (.tuple #[.agg #[.int .i64 n0,.int .i64 n1,.string s2],.int .i64 k])=.returned (.tuple #[zWt (zKk f p v).1,.int .i64 (zKk f p v).2])/\Pu w w'):=λ{wz} v' k {c} h1 h2 h3 h4=>
  retV (R:=λe w'=>e=.returned (.tuple #[zWt (zKk f p v).1,.int .i64 (zKk f p v).2])/\Pu w w') v' k h2 h3 λw' hf=>⟨by rw[h4],h1.andNew hf λi hi=>by have hi:i=w2.heap.size:=hi;omega⟩
 have b1:∀{wz},Pu w3 wz->wz.heap[w.heap.size]?=some (.cells #[.string f.name,.int .i64 f.kind,.int .i64 f.width,.bool f.null] 129):=λh=>h.blk (aA.blk (ar.blk aE))
 have b2:∀{wz},Pu w3 wz->wz.heap[w1.heap.size]?=some (.cells #[.int .i64 v.kind,.int .i64 v.n,.string v.s] 73):=λh=>h.blk (aA.blk aN)
 have b3:∀{wz},Pu w3 wz->wz.heap[w2.heap.size]?=some (.cells #[.int .i64 0,.int .i64 0,.string ⟨#[]⟩] 73):=λh=>h.blk bo
 have q0:=b1 (Pu.refl w3)
 refine⟨_,cl q0 0,_,cl q0 1,_,cl q0 2,_,cl q0 3,(yQO f hs w3).mono ?_⟩
 rintro e w4 ⟨rfl,aJ⟩
 refine⟨_,rfl,Br.of (λd=>out noV 1 (aZ.trans aJ) (b3 aJ) rfl (zW9 (by simp at d;simp[d]))) (λd=>(yZI p w4).mono ?_)⟩
 have hfB:zQn f=true:=by simpa using d
 rintro e w5 ⟨rfl,aV⟩
 have bL:=aJ.trans aV
 refine⟨_,rfl,Br.of (λd=>out noV 1 (aZ.trans bL) (b3 bL) rfl (zW9 (by simp at d;simp[d]))) (λd=>?_)⟩
 have hpB:zQT p=true:=by simpa using d
 have hB:(zQn f && zQT p)=true:=by rw[hfB,hpB];rfl
 refine⟨_,cl (b2 bL) 0,_,cl (b2 bL) 1,_,cl (b2 bL) 2,(yVZ v w5).mono ?_⟩
 rintro e w6 ⟨rfl,bV⟩
 have fI:=bL.trans bV
 have cU:=aZ.trans fI
 refine⟨_,rfl,Br.of (λd=>out noV (zXc v) cU (b3 fI) rfl (zWR hB (zQ5 d))) (λd=>?_)⟩
 have hv:=zQs d
 obtain⟨hvs,hvn,hv4⟩:=zKK hv
 have hF:=zKB (f:=f) (p:=p) hB hv
 refine⟨_,cl0 (b2 fI),Br.of (λd0=>⟨_,cl (b1 fI) 3,Br.of (λd1=>out noV 7 cU (b3 fI) rfl ?_) (λd1=>⟨_,cl (b2 fI) 0,_,cl (b2 fI) 1,_,cl (b2 fI) 2,out v 0 cU (b3 fI) rfl ?_⟩)⟩) (λd0=>?_)⟩
 ·rw[hF];unfold zZ4;rw[if_pos (zQC d0),show f.null=false by simpa using d1];rfl
 ·rw[hF];unfold zZ4;rw[if_pos (zQC d0),show f.null=true by simpa using d1];rfl
 have d0:=zQm d0
 refine zQf λw7 cK hh7=>⟨λu=>Pu w7 u,Pu.refl _,v.kind,λu hu=>cl0 (b2 ((fI.trans cK).trans hu)),f.name,λu hu=>cl (b1 ((fI.trans cK).trans hu)) 0,f.kind,λu hu=>cl (b1 ((fI.trans cK).trans hu)) 1,f.width,λu hu=>cl (b1 ((fI.trans cK).trans hu)) 2,f.null,λu hu=>cl (b1 ((fI.trans cK).trans hu)) 3,(yWQ f w7).mono ?_⟩
 rintro e w8 ⟨rfl,bM⟩
 have fv:=(fI.trans cK).trans bM
 have gj:=aZ.trans fv
 refine⟨_,_,_,rfl,bM,Br.of (λd1=>out noV 6 gj (b3 fv) rfl ?_) (λd1=>⟨_,cl (b1 fv) 1,?_⟩)⟩
 ·rw[hF];unfold zZ4;rw[if_neg d0,if_pos (zQ5 d1)]
 have d1:=zQs d1
 have mF:zKk f p v=if f.kind=4 then(if zXM (zZo (v.s.data.toList.take f.width.toNat)) p then(⟨4,0,bs (zZo (v.s.data.toList.take f.width.toNat))⟩,0)else(noV,10))else if zQM f p v then(v,0)else(noV,10):=by
  rw[hF];unfold zZ4;rw[if_neg d0,if_neg (by rw[d1];simp)]
 have j1:¬zXc v ≠ 0:=by omega
 -- what a value is that stays
 have stay:∀{wz:World},Pu w3 wz->zKk f p v=(v,0)->∃n0:Int,wz.cell? ((⟨w1.heap.size,0,none⟩:Addr).add 0)=some (.int .i64 n0)/\∃n1:Int,wz.cell? ((⟨w1.heap.size,0,none⟩:Addr).add 1)=some (.int .i64 n1)/\∃s2:ByteArray,wz.cell? ((⟨w1.heap.size,0,none⟩:Addr).add 2)=some (.string s2)/\
   stA prog 73 (⟨w2.heap.size,0,none⟩:Addr) #[.int .i64 n0,.int .i64 n1,.string s2] wz λw'=>∃n0:Int,w'.cell? ((⟨w2.heap.size,0,none⟩:Addr).add 0)=some (.int .i64 n0)/\∃n1:Int,w'.cell? ((⟨w2.heap.size,0,none⟩:Addr).add 1)=some (.int .i64 n1)/\
    ∃s2:ByteArray,w'.cell? ((⟨w2.heap.size,0,none⟩:Addr).add 2)=some (.string s2)/\(Ending.returned (.tuple #[.agg #[.int .i64 n0,.int .i64 n1,.string s2],.int .i64 0])=.returned (.tuple #[zWt (zKk f p v).1,.int .i64 (zKk f p v).2])/\Pu w w'):=λ{wz} h h2=>
  ⟨_,cl (b2 h) 0,_,cl (b2 h) 1,_,cl (b2 h) 2,out v 0 (aZ.trans h) (b3 h) rfl h2⟩
 refine Br.of (λd2=>?_) (λd2=>Br.of (λd3=>?_) (λd3=>Br.of (λd4=>?_) (λd4=>?_)))
 ·have d2:=zQC d2
  obtain⟨wl,wh⟩:=yQm hfB d2
  rw[if_pos d2]at mF
  refine⟨_,cl (b2 fv) 2,_,cl (b2 fv) 2,_,cl (b1 fv) 2,_,w8,yYN _ _ _ _ _ _,by omega,by omega,by omega,(zYf _ (by have:=zQ6 v.s 0 (min (v.s.size:Int) f.width).toNat;have:=zQy (v.s.extract 0 (min (v.s.size:Int) f.width).toNat);simp at *;omega) w8).mono ?_⟩
  rintro e w9 ⟨rfl,eH⟩
  have et:(v.s.extract 0 (min (v.s.size:Int) f.width).toNat).data.toList=v.s.data.toList.take f.width.toNat:=by
   rw[zQ6,List.drop_zero];exact xQu _ _ _ (by simp) (by omega)
  rw[et]
  have nh:=fv.trans eH
  have hkind:v.kind=4:=by rw[d1];unfold zXt;rw[if_neg (by omega)];exact d2
  have mg:v.n=0:=by rw[hkind]at hvn;simpa[okN] using hvn
  have hbl:(bs (zZo (v.s.data.toList.take f.width.toNat))).size<=2048:=by
   rw[zQ3];have:=yZo (v.s.data.toList.take f.width.toNat);have:=List.length_take_le f.width.toNat v.s.data.toList;have:=List.length_take_le' f.width.toNat v.s.data.toList;rw[zQy]at this;omega
  generalize hg:zZo (v.s.data.toList.take f.width.toNat)=B at *
  refine⟨_,rfl,?_⟩
  rw[zVS,zQr,Nat.zero_add]
  refine zQw (b2 nh) (show 2<3 by omega) λaU rL fJ=>?_
  have jR:Fr (·=w1.heap.size) w9 aU:=by rw[rL];exact Fr.cell w9 _ 2 _
  have lX:aU.heap[w1.heap.size]?=some (.cells #[.int .i64 v.kind,.int .i64 v.n,.string (bs B)] 73):=fJ
  have qV:Pu w aU:=(aZ.trans nh).andNew jR λi hi=>by have hi:i=w1.heap.size:=hi;omega
  have lY:=jR.blk (b3 nh) (show ¬w2.heap.size=w1.heap.size by omega)
  refine⟨_,cl lX 2,(xQJ _ hbl hpB aU).mono ?_⟩
  rintro e aT ⟨rfl,iM⟩
  rw[zQH]
  refine⟨_,rfl,Br.of (λd3=>out noV 10 (qV.trans iM) (iM.blk lY) rfl ?_) (λd3=>⟨_,cl (iM.blk lX) 0,_,cl (iM.blk lX) 1,_,cl (iM.blk lX) 2,?_⟩)⟩
  ·rw[mF,show zXM B p=false by simpa using d3];rfl
  ·rw[hkind,mg]
   exact out ⟨4,0,bs B⟩ 0 (qV.trans iM) (iM.blk lY) rfl (by rw[mF,show zXM B p=true by simpa using d3];rfl)
 ·have d2:=zQm d2
  have d3:=zQC d3
  obtain⟨wl,wh⟩:=xWw hfB d3
  have hkind:v.kind=2:=by rw[d1];unfold zXt;rw[if_neg (by omega)];exact d3
  have hn:-1000000000000000<=v.n/\v.n<=1000000000000000:=by rw[hkind]at hvn;simpa[okN] using hvn
  have hfit:zQM f p v=decide (((zZ7 v.n).length:Int)<=f.width):=by
   unfold zQM;rw[if_neg j1,if_neg d0,if_neg (by omega),if_neg (by rw[hkind,d3];simp),if_pos d3]
  rw[if_neg d2,hfit]at mF
  refine⟨_,cl (b2 fv) 1,_,cl (b1 fv) 2,(str_c hn ⟨wl,by omega⟩ w8).mono ?_⟩
  rintro e w9 ⟨rfl,eH⟩
  have nh:=fv.trans eH
  refine⟨_,_,rfl,Br.of (λd4=>absurd rfl (zQ5 d4)) (λ_=>(xXe _ 42 w9).mono ?_)⟩
  rintro e aU ⟨rfl,iq⟩
  have ni:=nh.trans iq
  refine⟨_,rfl,?_⟩
  rw[zQH,xQf wl]
  refine Br.of (λd4=>out noV 10 (aZ.trans ni) (b3 ni) rfl ?_) (λd4=>stay ni ?_)
  ·rw[mF,decide_eq_false (by have:=zQk d4;omega)];rfl
  ·rw[mF,decide_eq_true (by have:=zQd d4;omega)];rfl
 ·have d2:=zQm d2
  have d4:=zQC d4
  have hkind:v.kind=2:=by rw[d1];unfold zXt;rw[if_pos d4]
  have hfit:zQM f p v=zVc v.n:=by
   unfold zQM;rw[if_neg j1,if_neg d0,if_pos d4,hkind];rfl
  rw[if_neg d2,hfit]at mF
  refine⟨_,cl (b2 fv) 1,Br.of (λd5=>out noV 10 gj (b3 fv) rfl ?_) (λd5=>⟨_,cl (b2 fv) 1,Br.of (λd6=>out noV 10 gj (b3 fv) rfl ?_) (λd6=>stay fv ?_)⟩)⟩
  ·rw[mF,show zVc v.n=false by unfold zVc;rw[decide_eq_false (by have:=zQk d5;omega)];rfl];rfl
  ·rw[mF,show zVc v.n=false by unfold zVc;rw[decide_eq_false (show ¬v.n<=99999999 by have:=zQk d6;omega)];simp];rfl
  ·rw[mF,show zVc v.n=true by unfold zVc;rw[decide_eq_true (show 0<=v.n by have:=zQd d5;omega),decide_eq_true (show v.n<=99999999 by have:=zQd d6;omega)];rfl];rfl
 ·have d2:=zQm d2
  have d3:=zQm d3
  have d4:=zQm d4
  have hfit:zQM f p v=true:=by
   unfold zQM;rw[if_neg j1,if_neg d0,if_neg d4,if_neg (by rw[d1];unfold zXt;rw[if_neg d4];simp),if_neg d3,if_neg d2]
  rw[if_neg d2,hfit]at mF
  exact stay fv mF
end Go.Proofs.YtaeecpjhfmcliaaGreatDoor
/- Table: what a value becomes in a field, the reference. No condition. -/
namespace Go.Proofs.YtaeecpjhfmcliaaGreatDoor
open Go.Sh Go.RowKit Tryz
theorem yXt(l:List UInt8)(s:ByteArray):bs l=s ↔ l=s.data.toList:=by
 constructor
 ·intro h;rw[←h]
 ·intro h;rw[h]
theorem xQ0(n:Int)(w:World):Calls prog 133 #[.int .i64 n] w λe w'=>e=.returned (.bool (zVc n))/\Pu w w':=by
 refine yKI _ w _ (Br.of (λd=>?_) (λd=>?_))
 ·exact⟨by rw[zVc,decide_eq_true (show 0<=n from zQk d)];rfl,Pu.refl w⟩
 ·exact⟨by rw[zVc,decide_eq_false (show ¬0<=n from zQd d)];rfl,Pu.refl w⟩
theorem xWf(f:Fld)(p:Int)(v:Val)(w:World):Calls prog 93 #[yQ9 f,.int .i64 p,zWt v] w λe w'=>e=.returned (.bool (zQM f p v))/\Pu w w':=by
 refine yWX _ _ _ _ _ _ _ _ w _ ?_
 refine alB λw1 ax aE=>alB λw2 ar aN=>?_
 have aM:=ax.trans ar
 have b1:∀{wz},Pu w2 wz->wz.heap[w.heap.size]?=some (.cells #[.string f.name,.int .i64 f.kind,.int .i64 f.width,.bool f.null] 129):=λh=>h.blk (ar.blk aE)
 have b2:∀{wz},Pu w2 wz->wz.heap[w1.heap.size]?=some (.cells #[.int .i64 v.kind,.int .i64 v.n,.string v.s] 73):=λh=>h.blk aN
 have q0:=b2 (Pu.refl w2)
 refine⟨_,cl q0 0,_,cl q0 1,_,cl q0 2,(xQF v w2).mono ?_⟩
 rintro e w3 ⟨rfl,aA⟩
 have aZ:=aM.trans aA
 have out:∀{wz:World} {b:Bool},Pu w wz->zQM f p v=b->(Ending.returned (Value.bool b)=Ending.returned (Value.bool (zQM f p v))/\Pu w wz):=λh1 h2=>⟨by rw[h2],h1⟩
 refine⟨_,rfl,Br.of (λd=>out aZ (by unfold zQM;rw[if_pos (zQ5 d)])) (λd=>?_)⟩
 have hv:=zQs d
 have j1:¬zXc v ≠ 0:=by omega
 obtain⟨hvs,hvn,hv4⟩:=zKK hv
 refine⟨_,cl0 (b2 aA),Br.of (λd0=>⟨_,cl (b1 aA) 3,out aZ (by unfold zQM;rw[if_neg j1,if_pos (zQC d0)])⟩) (λd0=>⟨_,cl (b1 aA) 1,Br.of (λd1=>?_) (λd1=>?_)⟩)⟩
 ·refine⟨_,cl0 (b2 aA),Br.of (λd2=>⟨_,cl (b2 aA) 1,(xQ0 v.n w3).mono ?_⟩) (λd2=>out aZ ?_)⟩
  ·rintro e w4 ⟨rfl,aJ⟩
   exact⟨_,rfl,out (aZ.trans aJ) (by unfold zQM;rw[if_neg j1,if_neg (zQm d0),if_pos (zQC d1),decide_eq_true (zQC d2)];rfl)⟩
  ·unfold zQM;rw[if_neg j1,if_neg (zQm d0),if_pos (zQC d1),decide_eq_false (zQm d2)];rfl
 have e0:zQM f p v=if v.kind ≠ f.kind then false else if f.kind=2 then decide (((zZ7 v.n).length:Int)<=f.width)else if f.kind=4 then decide ((v.s.size:Int)<=f.width) && decide (zZo v.s.data.toList=v.s.data.toList) && zXM v.s.data.toList p else true:=by
  unfold zQM;rw[if_neg j1,if_neg (zQm d0),if_neg (zQm d1)]
 refine⟨_,cl0 (b2 aA),_,cl (b1 aA) 1,Br.of (λd2=>out aZ (by rw[e0,if_pos (zQ5 d2)])) (λd2=>⟨_,cl (b1 aA) 1,Br.of (λd3=>?_) (λd3=>⟨_,cl (b1 aA) 1,Br.of (λd4=>?_) (λd4=>out aZ ?_)⟩)⟩)⟩
 ·have d2:=zQs d2
  have d3:=zQC d3
  have hn:zZZ v.n:=by rw[d2,d3]at hvn;simp[okN]at hvn;exact⟨by omega,by omega⟩
  refine zQf λw4 aJ _=>⟨λu=>Pu w4 u,Pu.refl _,v.n,λu hu=>cl (b2 ((aA.trans aJ).trans hu)) 1,f.width,λu hu=>cl (b1 ((aA.trans aJ).trans hu)) 2,(yYp hn w4).mono ?_⟩
  rintro e w5 ⟨rfl,aV⟩
  refine⟨_,rfl,aV,out ((aZ.trans aJ).trans aV) ?_⟩
  rw[e0,if_neg (by rw[d2];simp),if_pos d3,zQ3]
 ·have d2:=zQs d2
  have d3:=zQm d3
  have d4:=zQC d4
  have e1:zQM f p v=(decide ((v.s.size:Int)<=f.width) && decide (zZo v.s.data.toList=v.s.data.toList) && zXM v.s.data.toList p):=by
   rw[e0,if_neg (by rw[d2];simp),if_neg d3,if_pos d4]
  refine zQf λw4 aJ _=>⟨λu=>Pu w4 u,Pu.refl _,v.s,λu hu=>cl (b2 ((aA.trans aJ).trans hu)) 2,f.width,λu hu=>cl (b1 ((aA.trans aJ).trans hu)) 2,Br.of (λd5=>?_) (λd5=>out (aZ.trans aJ) ?_)⟩
  ·refine⟨v.s,λu hu=>cl (b2 ((aA.trans aJ).trans hu)) 2,v.s,λu hu=>cl (b2 ((aA.trans aJ).trans hu)) 2,(xKZ v.s (by omega) w4).mono ?_⟩
   rintro e w5 ⟨rfl,aV⟩
   refine⟨_,rfl,aV,?_⟩
   rw[zXz]
   have hbe:(bs (zZo v.s.data.toList)=v.s) ↔ zZo v.s.data.toList=v.s.data.toList:=yXt _ _
   refine Br.of (λd6=>⟨v.s,λu hu=>cl (b2 ((aA.trans aJ).trans hu)) 2,(yK0 v.s (by omega) p w5).mono ?_⟩) (λd6=>out ((aZ.trans aJ).trans aV) ?_)
   ·rintro e w6 ⟨rfl,bV⟩
    refine⟨_,rfl,out (((aZ.trans aJ).trans aV).trans bV) ?_⟩
    rw[e1,decide_eq_true (zQk d5),decide_eq_true (hbe.1 (zQk d6))];rfl
   ·rw[e1,decide_eq_false (λh=>zQd d6 (hbe.2 h))];simp
  ·rw[e1,decide_eq_false (zQd d5)];rfl
 ·rw[e0,if_neg (by rw[zQs d2];simp),if_neg (zQm d3),if_neg (zQm d4)]
end Go.Proofs.YtaeecpjhfmcliaaGreatDoor
