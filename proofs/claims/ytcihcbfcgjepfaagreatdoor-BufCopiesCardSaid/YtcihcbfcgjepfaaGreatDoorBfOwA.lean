import Derived.Test.YtcihcbfcgjepfaaGreatDoorShNine
import Derived.Test.YtcihcbfcgjepfaaGreatDoorShSeventeen
import Derived.Test.YtcihcbfcgjepfaaGreatDoorBfPrA
import Derived.Test.YtcihcbfcgjepfaaGreatDoorShTwentyTwo
import Derived.Test.YtcihcbfcgjepfaaGreatDoorBtShelf
import Derived.Test.YtcihcbfcgjepfaaGreatDoorShThirteen
/- Table: data, and what is computed on it, in plain words. No condition. -/
set_option linter.unusedVariables false
set_option linter.unusedSimpArgs false
namespace Go.Proofs.YtcihcbfcgjepfaaGreatDoor
open Go.Sh Go.RowKit Tryz
theorem zJq {α:Type} {l:List α} {k:Nat} {x:α} (h:l[k]?=some x):l.drop k=x :: l.drop (k+1):=by
 obtain⟨h1,h2⟩:=List.getElem?_eq_some_iff.1 h
 rw[List.drop_eq_getElem_cons h1,h2]
theorem zQP {α:Type} {l:List α} {k:Nat} {x:α} (h:l[k]?=some x):l.take (k+1)=l.take k ++ [x]:=by
 rw[List.take_add_one,h];rfl
theorem zXe{α:Type}{l:List α}{k:Nat}(h:k<l.length):∃x,l[k]?=some x:=⟨_,List.getElem?_eq_getElem h⟩
theorem zKk(a:Addr):a.add 0=a:=by simp[Addr.add]
theorem zZq(s t:ByteArray):(s.toList == t.toList)=decide (s=t):=by rw[←beq_toListBytes,zZe]
theorem zZd{s t:ByteArray}(h:s.data.toList=t.data.toList):s=t:=by
 obtain⟨⟨a⟩⟩:=s;obtain⟨⟨b⟩⟩:=t;simp at h;rw[h]
theorem zZc(s:ByteArray):s.data.toList.length=s.size:=by simp
abbrev bs(l:List UInt8):ByteArray:=⟨l.toArray⟩
theorem zJw(l:List UInt8):(bs l).data.toList=l:=by simp[bs]
theorem zXI(l:List UInt8):(bs l).size=l.length:=by simp[bs,ByteArray.size]
structure Fld where
 name:ByteArray
 kind:Int
 width:Int
 null:Bool
deriving DecidableEq, Inhabited
structure Val where
 kind:Int
 n:Int
 s:ByteArray
deriving DecidableEq, Inhabited
structure Rec where
 gone:Bool
 v:List Val
deriving DecidableEq, Inhabited
structure Tbl where
 page:Int
 fields:List Fld
 recs:List Rec
deriving DecidableEq, Inhabited
def zJU(n:Int):Prop:=-9223372036854775808<=n/\n<=9223372036854775807
instance:Enc Bool where
 sz:=1
 rd _ vs b:=vs=[.bool b]
 len h:=by rw[h];rfl
 pu _ h:=h
abbrev zKW(f:Fld):List Value:=[.string f.name,.int .i64 f.kind,.int .i64 f.width,.bool f.null]
abbrev zXJ(v:Val):List Value:=[.int .i64 v.kind,.int .i64 v.n,.string v.s]
instance:Enc Fld where
 sz:=4
 rd _ vs f:=vs=zKW f/\zJU f.kind/\zJU f.width
 len h:=by rw[h.1];rfl
 pu _ h:=h
instance:Lim Fld:=⟨λf=>Lim.ok f.name⟩
instance:Enc Val where
 sz:=3
 rd _ vs v:=vs=zXJ v/\zJU v.kind/\zJU v.n
 len h:=by rw[h.1];rfl
 pu _ h:=h
instance:Lim Val:=⟨λv=>Lim.ok v.s⟩
instance:Enc Rec where
 sz:=2
 rd w vs r:=∃s:SV,vs=[.bool r.gone,.slice s.a s.len s.cap]/\zXP w s r.v
 len h:=by obtain⟨s,rfl,_⟩:=h;rfl
 pu hp h:=let ⟨s,h1,h2⟩:=h;⟨s,h1,h2.pu hp⟩
instance:Lim Rec:=⟨λr=>Lim.ok r.v⟩
structure zJG(w:World)(t:Tbl)(f r:SV):Prop where
 page:zJU t.page
 fields:zXP w f t.fields
 recs:zXP w r t.recs
theorem zJG.pu{w w':World}{t:Tbl}{f r:SV}(h:zJG w t f r)(hp:Pu w w'):zJG w' t f r:=⟨h.page,h.fields.pu hp,h.recs.pu hp⟩
instance:Enc Tbl where
 sz:=3
 rd w vs t:=∃f r:SV,vs=[.int .i64 t.page,.slice f.a f.len f.cap,.slice r.a r.len r.cap]/\zJG w t f r
 len h:=by obtain⟨f,r,rfl,_⟩:=h;rfl
 pu hp h:=let ⟨f,r,h1,h2⟩:=h;⟨f,r,h1,h2.pu hp⟩
instance:Lim Tbl:=⟨λt=>Lim.ok t.fields/\Lim.ok t.recs⟩
theorem zZ2 {w:World} {s:SV} {l:List Fld} (h:zXP w s l) {i:Nat} {f:Fld} (hx:l[i]?=some f):∃a,s.a=some a/\i<s.len/\zJU f.kind/\zJU f.width/\
  w.cell? (a.add (i * 4))=some (.string f.name)/\w.cell? ((a.add (i * 4)).add 0)=some (.string f.name)/\w.cell? ((a.add (i * 4)).add 1)=some (.int .i64 f.kind)/\w.cell? ((a.add (i * 4)).add 2)=some (.int .i64 f.width)/\w.cell? ((a.add (i * 4)).add 3)=some (.bool f.null):=by
 obtain⟨a,ha,vs,⟨rfl,h1⟩,h2⟩:=h.get i f hx
 have hi:i<l.length:=(List.getElem?_eq_some_iff.1 hx).1
 have h2:zZ7 w (a.add (i * 4)) (zKW f):=h2
 exact⟨a,ha,by rw[h.len];exact hi,h1.1,h1.2,by rw[←zKk (a.add _)];exact h2 0 _ rfl,h2 0 _ rfl,h2 1 _ rfl,h2 2 _ rfl,h2 3 _ rfl⟩
theorem xQl {w:World} {s:SV} {l:List Val} (h:zXP w s l) {i:Nat} {v:Val} (hx:l[i]?=some v):∃a,s.a=some a/\i<s.len/\zJU v.kind/\zJU v.n/\
  w.cell? ((a.add (i * 3)).add 0)=some (.int .i64 v.kind)/\w.cell? ((a.add (i * 3)).add 1)=some (.int .i64 v.n)/\w.cell? ((a.add (i * 3)).add 2)=some (.string v.s):=by
 obtain⟨a,ha,vs,⟨rfl,h1⟩,h2⟩:=h.get i v hx
 have hi:i<l.length:=(List.getElem?_eq_some_iff.1 hx).1
 have h2:zZ7 w (a.add (i * 3)) (zXJ v):=h2
 exact⟨a,ha,by rw[h.len];exact hi,h1.1,h1.2,h2 0 _ rfl,h2 1 _ rfl,h2 2 _ rfl⟩
theorem yJf {w:World} {s:SV} {l:List Rec} (h:zXP w s l) {i:Nat} {r:Rec} (hx:l[i]?=some r):∃a t,s.a=some a/\i<s.len/\zXP w t r.v/\
  w.cell? ((a.add (i * 2)).add 0)=some (.bool r.gone)/\w.cell? ((a.add (i * 2)).add 1)=some (.slice t.a t.len t.cap):=by
 obtain⟨a,ha,vs,⟨t,rfl,h1⟩,h2⟩:=h.get i r hx
 have hi:i<l.length:=(List.getElem?_eq_some_iff.1 hx).1
 have h2:zZ7 w (a.add (i * 2)) [.bool r.gone,.slice t.a t.len t.cap]:=h2
 exact⟨a,t,ha,by rw[h.len];exact hi,h1,h2 0 _ rfl,h2 1 _ rfl⟩
def noV:Val:=⟨0,0,⟨#[]⟩⟩
def zK3(b:UInt8):Bool:=decide (65<=b.toNat) && decide (b.toNat<=90)
def zY3(b:UInt8):Bool:=decide (48<=b.toNat) && decide (b.toNat<=57)
def zZg(s:ByteArray):Bool:=decide (1<=s.size) && decide (s.size<=10) && s.data.toList.all (λb=>zK3 b || zY3 b || decide (b.toNat=95)) && (s.data.toList.take 1).all zK3
def zWi(k w:Int):Bool:=if k=1 then decide (w=1)else if k=2 then decide (1<=w) && decide (w<=15)else if k=3 then decide (w=8)else if k=4 then decide (1<=w) && decide (w<=254)else if k=5 then decide (w=8)else false
def zQ5(f:Fld):Bool:=zZg f.name && zWi f.kind f.width
def zXm(p:Int):Bool:=decide (0<=p) && decide (p<=2)
def onB(b:UInt8)(p:Int):Bool:=if p=0 then decide (b.toNat<128)else if p=1 then true else decide (b.toNat<176) || (decide (224<=b.toNat) && decide (b.toNat<240))
def zXG(l:List UInt8)(p:Int):Bool:=l.all λb=>onB b p
def zWU(l:List Fld):Nat:=((l.filter (·.null)).length+7) / 8
def wide(l:List Fld):Int:=1+(zWU l:Int)+(l.map (·.width)).sum
def zQW(l:List Fld):Int:=if l=[]∨l.all zQ5=false then 1 else if ¬(l.map (·.name)).Nodup then 5 else if 16<l.length∨2000<wide l then 3 else 0
def okN(k n:Int):Bool:=if k=0 then decide (n=0)else if k=1 then decide (n=0) || decide (n=1)else if k=2 then decide (-1000000000000000<=n) && decide (n<=1000000000000000)else if k=3 then decide (0<=n) && decide (n<=3652059)else if k=4 then decide (n=0)else false
def zXn(v:Val):Int:=if 2048<v.s.size then 3 else if okN v.kind v.n && (decide (v.kind=4) || decide (v.s.size=0))then 0 else 1
def zJb(n:Nat):List UInt8:=if h:n<10 then [UInt8.ofNat (48+n)]else zJb (n / 10) ++ [UInt8.ofNat (48+n % 10)]
 termination_by n
 decreasing_by omega
def zJV(n:Int):List UInt8:=if n<0 then 45 :: zJb n.natAbs else zJb n.natAbs
def zZf(l:List UInt8):List UInt8:=(l.reverse.dropWhile (· == 32)).reverse
def zVb(n:Int):Bool:=decide (0<=n) && decide (n<=99999999)
def zQT(f:Fld)(p:Int)(v:Val):Bool:=
 if zXn v ≠ 0 then false else if v.kind=0 then f.null else if f.kind=5 then decide (v.kind=2) && zVb v.n else if v.kind ≠ f.kind then false
 else if f.kind=2 then decide (((zJV v.n).length:Int)<=f.width)else if f.kind=4 then decide ((v.s.size:Int)<=f.width) && decide (zZf v.s.data.toList=v.s.data.toList) && zXG v.s.data.toList p else true
def zQ9(f:Fld):Val:=if f.kind=5 then⟨2,0,⟨#[]⟩⟩else⟨f.kind,0,⟨#[]⟩⟩
def zQO(f:Fld)(p:Int)(v:Val):Val × Int:=
 if v.kind=0 then(if f.null then(v,0)else(noV,7))else if v.kind ≠ (zQ9 f).kind then(noV,6)
 else if f.kind=4 then(if zXG (zZf (v.s.data.toList.take f.width.toNat)) p then(⟨4,0,bs (zZf (v.s.data.toList.take f.width.toNat))⟩,0)else(noV,10))
 else if zQT f p v then(v,0)else(noV,10)
def zZM(f:Fld)(p:Int)(v:Val):Val × Int:=if zQ5 f && zXm p then(if zXn v ≠ 0 then(noV,zXn v)else zQO f p v)else(noV,1)
def zQD(l:List Fld)(p:Int)(r:Rec):Int:=if r.v.length ≠ l.length then 10 else if (l.zip r.v).all (λx=>zQT x.1 p x.2)then 0 else 1
def zXL(l:List Fld)(p:Int):List Rec->Int
 | []=>0
 | r :: rs=>if zQD l p r ≠ 0 then zQD l p r else zXL l p rs
def zQQ(t:Tbl):Int:=if zXm t.page then(if zQW t.fields ≠ 0 then zQW t.fields else if 300<t.recs.length then 3 else zXL t.fields t.page t.recs)else 1
end Go.Proofs.YtcihcbfcgjepfaaGreatDoor
/- Table: values, names, fields, pages: which are right. No condition. -/
set_option maxRecDepth 100000
namespace Go.Proofs.YtcihcbfcgjepfaaGreatDoor
open Go.Sh Go.RowKit Tryz
theorem zZC(s:ByteArray):(s.toList == (⟨#[]⟩:ByteArray).toList)=decide (s.size=0):=by
 rw[←beq_toListBytes,zZe]
 by_cases h:s.size=0
 ·have:s=⟨#[]⟩:=by
   obtain⟨⟨l⟩⟩:=s
   cases l with
   | nil=>rfl
   | cons a l=>simp[ByteArray.size]at h
  simp[this]
  rfl
 ·have:s ≠ ⟨#[]⟩:=λe=>h (by rw[e];rfl)
  simp[this,h]
theorem alB {w:World} {c:Array Value} {e:TypeId} {K:Nat->World->Prop} (h:∀w1,Pu w w1->w1.heap[w.heap.size]?=some (.cells c e)->K w.heap.size w1):alE (.cells c e) w K:=
 h _ (Pu.alloc w _) (zX4 w _)
theorem cl {w:World} {r:Nat} {c:Array Value} {e:TypeId} {f:Nat × Nat} (h:w.heap[r]?=some (.cells c e f)) (o:Nat):w.cell? ((⟨r,0,none⟩:Addr).add o)=c[o]?:=by rw[zQc,zQq h,Nat.zero_add]
theorem cl0 {w:World} {r:Nat} {c:Array Value} {e:TypeId} {f:Nat × Nat} (h:w.heap[r]?=some (.cells c e f)):w.cell? (⟨r,0,none⟩:Addr)=c[0]?:=zQq h 0
theorem zQA {a b:Int} (h:(a == b)=true):a=b:=by simpa using h
theorem zQo {a b:Int} (h:(a == b)=false):a ≠ b:=by simpa using h
theorem zQ4 {a b:Int} (h:(a != b)=true):a ≠ b:=by simpa using h
theorem zQu {a b:Int} (h:(a != b)=false):a=b:=by simpa using h
theorem yWK(n:Int)(w:World):Calls prog 158 #[.int .i64 n] w λe w'=>e=.returned (.bool (decide (-1000000000000000<=n) && decide (n<=1000000000000000)))/\Pu w w':=by
 refine yZW _ w _ (Br.of (λd=>?_) (λd=>?_))
 ·exact⟨by rw[decide_eq_true (show -1000000000000000<=n from zQm d)];rfl,Pu.refl w⟩
 ·exact⟨by rw[decide_eq_false (show ¬ -1000000000000000<=n from zQh d)];rfl,Pu.refl w⟩
theorem xJ3(n:Int)(w:World):Calls prog 98 #[.int .i64 n] w λe w'=>e=.returned (.bool (decide (-1000000000000000<=n) && decide (n<=1000000000000000)))/\Pu w w':=by
 refine yKB _ w _ (Br.of (λd=>?_) (λd=>?_))
 ·exact⟨by rw[decide_eq_true (show -1000000000000000<=n from zQm d)];rfl,Pu.refl w⟩
 ·exact⟨by rw[decide_eq_false (show ¬ -1000000000000000<=n from zQh d)];rfl,Pu.refl w⟩
theorem xJC(n:Int)(w:World):Calls prog 188 #[.int .i64 n] w λe w'=>e=.returned (.bool (decide (0<=n) && decide (n<=3652059)))/\Pu w w':=by
 refine yZ7 _ w _ (Br.of (λd=>?_) (λd=>?_))
 ·exact⟨by rw[decide_eq_true (show 0<=n from zQm d)];rfl,Pu.refl w⟩
 ·exact⟨by rw[decide_eq_false (show ¬0<=n from zQh d)];rfl,Pu.refl w⟩
def zXR(v:Val):Bool:=okN v.kind v.n && (decide (v.kind=4) || decide (v.s.size=0))
theorem yWb(v:Val)(w:World):Calls prog 152 #[.agg #[.int .i64 v.kind,.int .i64 v.n,.string v.s]] w λe w'=>e=.returned (.bool (zXR v))/\Pu w w':=by
 refine yZu _ _ _ w _ ?_
 refine alB λw1 hp hb=>?_
 have fin:(v.kind=4->v.n=0)->(v.kind ≠ 4->v.s.size=0)->zVq (λe w'=>e=.returned (.bool (zXR v))/\Pu w w') (some (⟨w.heap.size,0,none⟩:Addr)) v.kind [] w1:=λh4 hs=>by
  have e:zXR v=okN v.kind v.n:=by
   unfold zXR
   by_cases h:v.kind=4 <;> simp[h,hs]
  refine Br.of (λd=>?_) (λd=>Br.of (λd1=>?_) (λd1=>Br.of (λd2=>?_) (λd2=>Br.of (λd3=>?_) (λd3=>?_))))
  ·have d:=zQA d
   refine⟨_,cl hb 1,by rw[e,okN,if_pos d];rfl,hp⟩
  ·have d:=zQo d
   have d1:=zQA d1
   refine⟨_,cl hb 1,Br.of (λd2=>?_) (λd2=>⟨_,cl hb 1,?_,hp⟩)⟩
   ·have d2:=zQA d2
    refine⟨by rw[e,okN,if_neg d,if_pos d1,d2];rfl,hp⟩
   ·have d2:=zQo d2
    rw[e,okN,if_neg d,if_pos d1,decide_eq_false d2];rfl
  ·have d:=zQo d
   have d1:=zQo d1
   have d2:=zQA d2
   refine⟨_,cl hb 1,(yWK v.n w1).mono ?_⟩
   rintro e' w2 ⟨rfl,aj⟩
   exact⟨_,rfl,by rw[e,okN,if_neg d,if_neg d1,if_pos d2],hp.trans aj⟩
  ·have d:=zQo d
   have d1:=zQo d1
   have d2:=zQo d2
   have d3:=zQA d3
   refine⟨_,cl hb 1,(xJC v.n w1).mono ?_⟩
   rintro e' w2 ⟨rfl,aj⟩
   exact⟨_,rfl,by rw[e,okN,if_neg d,if_neg d1,if_neg d2,if_pos d3],hp.trans aj⟩
  ·have d:=zQo d
   have d1:=zQo d1
   have d2:=zQo d2
   have d3:=zQo d3
   refine⟨_,cl0 hb,?_,hp⟩
   rw[e,okN,if_neg d,if_neg d1,if_neg d2,if_neg d3]
   by_cases h:v.kind=4
   ·simp[h,h4 h]
   ·simp[h]
 have bad:zXR v=false->(Ending.returned (Value.bool false)=Ending.returned (Value.bool (zXR v))/\Pu w w1):=λh=>⟨by rw[h],hp⟩
 refine⟨_,cl0 hb,Br.of (λd=>⟨_,cl hb 2,?_⟩) (λd=>?_)⟩
 ·have d:=zQ4 d
  rw[zZC]
  refine Br.of (λd1=>?_) (λd1=>⟨_,cl0 hb,Br.of (λd2=>absurd (zQA d2) d) (λd2=>?_)⟩)
  ·exact bad (by simp at d1;simp[zXR,d,d1])
  ·exact⟨_,cl0 hb,fin (λh=>absurd h d) (λ_=>by simpa using d1)⟩
 ·have d:=zQu d
  refine⟨_,cl0 hb,Br.of (λd1=>⟨_,cl hb 1,?_⟩) (λd1=>absurd d (zQo d1))⟩
  refine Br.of (λd2=>?_) (λd2=>⟨_,cl0 hb,fin (λ_=>zQu d2) (λh=>absurd d h)⟩)
  exact bad (by have:=zQ4 d2;simp[zXR,okN,d,this])
theorem zZb(v:Val):zXn v=if 2048<v.s.size then 3 else if zXR v then 0 else 1:=rfl
theorem yKE(v:Val)(w:World):Calls prog 107 #[.agg #[.int .i64 v.kind,.int .i64 v.n,.string v.s]] w λe w'=>e=.returned (.int .i64 (zXn v))/\Pu w w':=by
 refine yZ5 _ _ _ w _ ?_
 refine alB λw1 hp hb=>⟨v.s,cl hb 2,Br.of (λd=>?_) (λd=>?_)⟩
 ·have:2048<v.s.size:=by have:=zQm d;omega
  exact⟨by rw[zZb,if_pos this],hp⟩
 ·have hn:¬2048<v.s.size:=by have:=zQh d;omega
  refine⟨_,cl hb 0,_,cl hb 1,_,cl hb 2,(yWb v w1).mono ?_⟩
  rintro e w2 ⟨rfl,aj⟩
  refine⟨_,rfl,Br.of (λd1=>?_) (λd1=>?_)⟩
  ·have d1:zXR v=false:=by simpa using d1
   exact⟨by rw[zZb,if_neg hn,d1];rfl,hp.trans aj⟩
  ·have d1:zXR v=true:=by simpa using d1
   exact⟨by rw[zZb,if_neg hn,d1];rfl,hp.trans aj⟩
theorem yXR(v:Val)(w:World):Calls prog 45 #[.agg #[.int .i64 v.kind,.int .i64 v.n,.string v.s]] w λe w'=>e=.returned (.int .i64 (zXn v))/\Pu w w':=by
 refine yW4 _ _ _ w _ ?_
 refine alB λw1 hp hb=>⟨v.s,cl hb 2,Br.of (λd=>?_) (λd=>?_)⟩
 ·have:2048<v.s.size:=by have:=zQm d;omega
  exact⟨by rw[zZb,if_pos this],hp⟩
 ·have hn:¬2048<v.s.size:=by have:=zQh d;omega
  have fin:∀{b:Bool} {w2:World},b=okN v.kind v.n->Pu w1 w2->zVn (λe w'=>e=.returned (.int .i64 (zXn v))/\Pu w w') (some (⟨w.heap.size,0,none⟩:Addr)) b [] w2:=λ{b w2} h aj=>by
   subst h
   have e1:zXn v=if zXR v then 0 else 1:=by rw[zZb,if_neg hn]
   have ag:=aj.blk hb
   refine Br.of (λd1=>?_) (λd1=>⟨_,cl0 ag,Br.of (λd2=>⟨_,cl ag 2,?_⟩) (λd2=>?_)⟩)
   ·exact⟨by rw[e1,zXR,show okN v.kind v.n=false by simpa using d1];rfl,hp.trans aj⟩
   ·have d1:okN v.kind v.n=true:=by simpa using d1
    have d2:=zQ4 d2
    rw[zZC]
    refine Br.of (λd3=>?_) (λd3=>?_)
    ·exact⟨by simp at d3;rw[e1];simp[zXR,d1,d2,d3],hp.trans aj⟩
    ·exact⟨by simp at d3;rw[e1];simp[zXR,d1,d2,d3],hp.trans aj⟩
   ·have d1:okN v.kind v.n=true:=by simpa using d1
    exact⟨by rw[e1,zXR,d1,zQu d2];rfl,hp.trans aj⟩
  refine⟨_,cl0 hb,Br.of (λd0=>⟨_,cl hb 1,fin ?_ (Pu.refl _)⟩) (λd0=>Br.of (λd1=>⟨_,cl hb 1,Br.of (λd2=>fin ?_ (Pu.refl _)) (λd2=>⟨_,cl hb 1,fin ?_ (Pu.refl _)⟩)⟩) (λd1=>Br.of (λd2=>⟨_,cl hb 1,(xJ3 v.n w1).mono ?_⟩)
   (λd2=>Br.of (λd3=>⟨_,cl hb 1,Br.of (λd4=>⟨_,cl hb 1,fin ?_ (Pu.refl _)⟩) (λd4=>fin ?_ (Pu.refl _))⟩) (λd3=>Br.of (λd4=>⟨_,cl hb 1,fin ?_ (Pu.refl _)⟩) (λd4=>fin ?_ (Pu.refl _))))))⟩
  ·rw[okN,if_pos (zQA d0)];rfl
  ·rw[okN,if_neg (zQo d0),if_pos (zQA d1),zQA d2];rfl
  ·rw[okN,if_neg (zQo d0),if_pos (zQA d1),decide_eq_false (zQo d2)];rfl
  ·rintro e' w2 ⟨rfl,aj⟩
   exact⟨_,rfl,fin (by rw[okN,if_neg (zQo d0),if_neg (zQo d1),if_pos (zQA d2)]) aj⟩
  ·rw[okN,if_neg (zQo d0),if_neg (zQo d1),if_neg (zQo d2),if_pos (zQA d3),decide_eq_true (show 0<=v.n from zQm d4)];rfl
  ·rw[okN,if_neg (zQo d0),if_neg (zQo d1),if_neg (zQo d2),if_pos (zQA d3),decide_eq_false (show ¬0<=v.n from zQh d4)];rfl
  ·rw[okN,if_neg (zQo d0),if_neg (zQo d1),if_neg (zQo d2),if_neg (zQo d3),if_pos (zQA d4)];rfl
  ·rw[okN,if_neg (zQo d0),if_neg (zQo d1),if_neg (zQo d2),if_neg (zQo d3),if_neg (zQo d4)]
end Go.Proofs.YtcihcbfcgjepfaaGreatDoor
/- Table: names, fields and pages: which are right. No condition. -/
namespace Go.Proofs.YtcihcbfcgjepfaaGreatDoor
open Go.Sh Go.RowKit Tryz
structure K5 where
 letter:Int
 least:Int
 most:Int
 wr:Nat
 rd:Nat
def yQ8(k:K5):Value:=.agg #[.int .u8 k.letter,.int .i64 k.least,.int .i64 k.most,.func (.func k.wr) #[] #[],.func (.func k.rd) #[] #[]]
abbrev xQ8(n:Int):Value:=.int .i64 n
def yQn:List (Int × K5):=[(1,⟨76,1,1,177,178⟩),(2,⟨78,1,15,179,180⟩),(3,⟨68,8,8,181,182⟩),(4,⟨67,1,254,183,184⟩),(5,⟨77,8,8,185,186⟩)]
theorem u104:prog.underlying 186=some (.map 3 184):=by kernel_rfl
theorem yZ6:Keys prog 3 xQ8:=yXZ (q:=.i64) (by kernel_rfl)
theorem z102(w:World):(zeroValue 184).run prog w=.ok (.agg #[.int .u8 0,.int .i64 0,.int .i64 0,.nilFunc,.nilFunc]) w:=Tryz.zeroValue184 w
theorem yJY(w:World):Calls prog 150 #[] w λe w'=>∃b,e=.returned (.map (some b))/\zQ3 w' xQ8 yQ8 b yQn/\w.heap.size<=b/\Pu w w':=by
 refine yZ4 w _ ?_
 refine zXz λw1 gj=>?_
 have hp:Pu w w1:=by rw[gj];exact Pu.alloc w _
 have hm:zQ3 w1 xQ8 yQ8 w.heap.size ([]:List (Int × K5)):=by rw[gj];exact zQ3.new w _ _
 obtain⟨w2,e2,h2,f2,_⟩:=hm.upd yZ6 u104 1 ⟨76,1,1,177,178⟩
 obtain⟨w3,e3,h3,f3,_⟩:=h2.upd yZ6 u104 2 ⟨78,1,15,179,180⟩
 obtain⟨w4,e4,h4,f4,_⟩:=h3.upd yZ6 u104 3 ⟨68,8,8,181,182⟩
 obtain⟨w5,e5,h5,f5,_⟩:=h4.upd yZ6 u104 4 ⟨67,1,254,183,184⟩
 obtain⟨w6,e6,h6,f6,_⟩:=h5.upd yZ6 u104 5 ⟨77,8,8,185,186⟩
 refine⟨w2,e2,w3,e3,w4,e4,w5,e5,w6,e6,w.heap.size,rfl,h6,Nat.le_refl _,?_⟩
 have n:∀i,i=w.heap.size->w.heap.size<=i:=λi h=>by omega
 exact((((hp.andNew f2 n).andNew f3 n).andNew f4 n).andNew f5 n).andNew f6 n
def zX2(k:Int):Option K5:=AL.get yQn k
theorem yKP{w:World}{b:Nat}(h:zQ3 w xQ8 yQ8 b yQn)(k:Int)(ok:Bool):(Instr.lookup 186 (.map (some b)) (.int .i64 k) ok).run prog w =
  .ok (if ok then .tuple #[(zX2 k).elim (.agg #[.int .u8 0,.int .i64 0,.int .i64 0,.nilFunc,.nilFunc]) yQ8,.bool (zX2 k).isSome]else(zX2 k).elim (.agg #[.int .u8 0,.int .i64 0,.int .i64 0,.nilFunc,.nilFunc]) yQ8) w:=
 h.look yZ6 u104 (z102 w) k ok
theorem zKi(k:Int):(k=1/\zX2 k=some ⟨76,1,1,177,178⟩)∨(k=2/\zX2 k=some ⟨78,1,15,179,180⟩)∨(k=3/\zX2 k=some ⟨68,8,8,181,182⟩)∨(k=4/\zX2 k=some ⟨67,1,254,183,184⟩)∨(k=5/\zX2 k=some ⟨77,8,8,185,186⟩)∨(k ≠ 1/\k ≠ 2/\k ≠ 3/\k ≠ 4/\k ≠ 5/\zX2 k=none):=by
 by_cases h1:k=1
 ·subst h1;exact .inl ⟨rfl,rfl⟩
 by_cases h2:k=2
 ·subst h2;exact .inr (.inl ⟨rfl,rfl⟩)
 by_cases h3:k=3
 ·subst h3;exact .inr (.inr (.inl ⟨rfl,rfl⟩))
 by_cases h4:k=4
 ·subst h4;exact .inr (.inr (.inr (.inl ⟨rfl,rfl⟩)))
 by_cases h5:k=5
 ·subst h5;exact .inr (.inr (.inr (.inr (.inl ⟨rfl,rfl⟩))))
 ·refine .inr (.inr (.inr (.inr (.inr ⟨h1,h2,h3,h4,h5,?_⟩))))
  simp[zX2,yQn,AL.get,h1,h2,h3,h4,h5,Ne.symm h1,Ne.symm h2,Ne.symm h3,Ne.symm h4,Ne.symm h5]
def xKa:List UInt8:=[65,66,67,68,69,70,71,72,73,74,75,76,77,78,79,80,81,82,83,84,85,86,87,88,89,90,48,49,50,51,52,53,54,55,56,57,95]
theorem xJy(b:UInt8):xKa.contains b=(zK3 b || zY3 b || decide (b.toNat=95)):=by
 have h:∀n:Nat,n<256->xKa.contains (UInt8.ofNat n)=(zK3 (UInt8.ofNat n) || zY3 (UInt8.ofNat n) || decide ((UInt8.ofNat n).toNat=95)):=by decide +kernel
 have:=h b.toNat b.toNat_lt
 rwa [UInt8.ofNat_toNat]at this
theorem zZj{α:Type}(p:α->Bool):∀l:List α,l.dropWhile p=[] ↔ l.all p=true
 | []=>by simp
 | a :: l=>by
  by_cases h:p a=true
  ·rw[List.dropWhile_cons,if_pos h,zZj p l];simp[h]
  ·simp[List.dropWhile,h]
theorem zZk{α:Type}(p:α->Bool):∀l:List α,(l.dropWhile p).all p=true ↔ l.all p=true
 | []=>by simp
 | a :: l=>by
  by_cases h:p a=true
  ·simp only[List.dropWhile_cons,h,if_pos,List.all_cons,Bool.true_and]
   exact zZk p l
  ·simp[List.dropWhile,h]
theorem yKt(l cs:List UInt8):Lib.trimS l cs=[] ↔ l.all (cs.contains ·)=true:=by
 unfold Lib.trimS Lib.trimLeftS Lib.trimRightS
 rw[zZj]
 have:((l.reverse.dropWhile (cs.contains ·)).reverse).all (cs.contains ·)=(l.reverse.dropWhile (cs.contains ·)).all (cs.contains ·):=List.all_reverse
 rw[this,zZk,List.all_reverse]
theorem u110:(prog.info? 191).map (λi=>(i.zero,i.size))=some (some (.agg (Array.replicate 256 (.bool false))),256):=by kernel_rfl
theorem trim_c(s:ByteArray)(hs:s.size<=9223372036854775807)(w:World):Calls prog 187 #[.string s,.string ⟨#[65,66,67,68,69,70,71,72,73,74,75,76,77,78,79,80,81,82,83,84,85,86,87,88,89,90,48,49,50,51,52,53,54,55,56,57,95]⟩] w
  λe w'=>e=.returned (.string ⟨(Lib.trimS s.data.toList xKa).toArray⟩)/\Pu w w':=
 Any.strings_Trim_laid Tryz.lays160 u110 s ⟨#[65,66,67,68,69,70,71,72,73,74,75,76,77,78,79,80,81,82,83,84,85,86,87,88,89,90,48,49,50,51,52,53,54,55,56,57,95]⟩ w hs (by decide) (ascii_of_all (by decide))
theorem zWW{s:ByteArray}{k:Nat}(h:k<s.size):∃b,s[k]?=some b/\s.data.toList[k]?=some b:=by
 refine⟨s[k],by simp[h],?_⟩
 have:k<s.data.toList.length:=by simpa using h
 rw[List.getElem?_eq_getElem this]
 rfl
theorem yYT(s:ByteArray)(hs:s.size<=140737488355328)(w:World):Calls prog 151 #[.string s] w λe w'=>e=.returned (.bool (zZg s))/\Pu w w':=by
 refine yJp _ w _ ?_
 have no:∀{w2:World},Pu w w2->zZg s=false->(Ending.returned (Value.bool false)=Ending.returned (Value.bool (zZg s))/\Pu w w2):=λh1 h2=>⟨by rw[h2],h1⟩
 rw[yVl,zZC]
 refine Br.of (λd0=>Br.of (λd1=>(trim_c s (by omega) w).mono ?_) (λd1=>no (Pu.refl _) ?_)) (λd0=>no (Pu.refl _) ?_)
 ·rintro e w2 ⟨rfl,aj⟩
  have d0:¬s.size=0:=by simpa using d0
  have d1:s.size<=10:=by have:=zQm d1;omega
  refine⟨_,rfl,?_⟩
  have e2:((ByteArray.mk (Lib.trimS s.data.toList xKa).toArray).toList == (⟨#[]⟩:ByteArray).toList)=s.data.toList.all (λb=>zK3 b || zY3 b || decide (b.toNat=95)):=by
   rw[zZC]
   have h1:((ByteArray.mk (Lib.trimS s.data.toList xKa).toArray).size=0) ↔ s.data.toList.all (xKa.contains ·)=true:=by
    rw[←yKt];simp[ByteArray.size]
   rw[show(λb:UInt8=>zK3 b || zY3 b || decide (b.toNat=95))=(xKa.contains ·)from funext λb=>(xJy b).symm]
   rw[Bool.eq_iff_iff,decide_eq_true_iff];exact h1
  rw[e2]
  have en:zZg s=(s.data.toList.all (λb=>zK3 b || zY3 b || decide (b.toNat=95)) && (s.data.toList.take 1).all zK3):=by
   unfold zZg;rw[decide_eq_true (show 1<=s.size by omega),decide_eq_true d1];simp only[Bool.true_and]
  obtain⟨b,ay,ag⟩:=zWW (s:=s) (k:=0) (by omega)
  have ht:s.data.toList.take 1=[b]:=by
   cases hl:s.data.toList with
   | nil=>rw[hl]at ag;simp at ag
   | cons a r=>rw[hl]at ag;simp at ag;simp[ag]
  refine Br.of (λd2=>⟨b,by omega,ay,Br.of (λd3=>⟨b,by omega,ay,?_,aj⟩) (λd3=>?_)⟩) (λd2=>?_)
  ·have d3:=zQm d3
   rw[en,d2,ht]
   simp only[List.all_cons,List.all_nil,Bool.and_true,Bool.true_and,zK3]
   rw[decide_eq_true (show 65<=b.toNat by omega)]
   simp only[Bool.true_and]
   congr 3
   exact propext (by omega)
  ·have d3:=zQh d3
   refine no aj ?_
   rw[en,d2,ht]
   simp only[List.all_cons,List.all_nil,Bool.and_true,Bool.true_and,zK3]
   rw[decide_eq_false (show ¬65<=b.toNat by omega)];rfl
  ·exact no aj (by rw[en,d2];rfl)
 ·have:=zQh d1
  unfold zZg;rw[decide_eq_false (show ¬s.size<=10 by omega)];simp
 ·have:s.size=0:=by simpa using d0
  unfold zZg;rw[this];rfl
theorem yKI(b:UInt8)(w:World):Calls prog 148 #[.int .u8 ((b.toNat:Nat):Int)] w λe w'=>e=.returned (.bool (zY3 b))/\Pu w w':=by
 refine yJ0 _ w _ (Br.of (λd=>?_) (λd=>?_))
 ·refine⟨?_,Pu.refl w⟩
  unfold zY3;have:=zQm d;rw[decide_eq_true (show 48<=b.toNat by omega),Bool.true_and]
  congr 2;simp only[decide_eq_decide];omega
 ·refine⟨?_,Pu.refl w⟩
  unfold zY3;have:=zQh d;rw[decide_eq_false (show ¬48<=b.toNat by omega)];rfl
theorem zZY {α:Type} (p:α->Bool) {l:List α} {k:Nat} {x:α} (h:l[k]?=some x):(l.take (k+1)).all p=((l.take k).all p && p x):=by
 rw[zQP h,List.all_append];simp
theorem yK4(s:ByteArray)(w:World):Calls prog 97 #[.string s] w λe w'=>e=.returned (.bool (zZg s))/\Pu w w':=by
 refine yWi _ w _ (Br.of (λd0=>⟨?_,Pu.refl _⟩) (λd0=>Br.of (λd1=>⟨?_,Pu.refl _⟩) (λd1=>?_)))
 ·have:=zQm d0
  unfold zZg;rw[decide_eq_false (show ¬1<=s.size by omega)];rfl
 ·have:=zQm d1
  unfold zZg;rw[decide_eq_false (show ¬s.size<=10 by omega)];simp
 have d0:=zQh d0
 have d1:=zQh d1
 have en:zZg s=(s.data.toList.all (λb=>zK3 b || zY3 b || decide (b.toNat=95)) && (s.data.toList.take 1).all zK3):=by
  unfold zZg;rw[decide_eq_true (show 1<=s.size by omega),decide_eq_true (show s.size<=10 by omega)];simp only[Bool.true_and]
 refine zQ1 s.size (λk t w'=>t=(k:Int)/\Pu w w'/\(s.data.toList.take k).all (λb=>zK3 b || zY3 b || decide (b.toNat=95))=true/\((s.data.toList.take k).take 1).all zK3=true) ⟨rfl,Pu.refl _,rfl,rfl⟩ ?_
 rintro k J t w2 hk ⟨ht,aj,ha,hf⟩ hJ
 obtain rfl:t=(k:Int):=ht
 refine Br.of (λd2=>?_) (λd2=>?_)
 ·have hks:k<s.size:=by have:=zQm d2;omega
  obtain⟨b,ay,ag⟩:=zWW hks
  have hu:=b.toNat_lt
  have go:∀{w3:World},Pu w2 w3->(zK3 b || zY3 b || decide (b.toNat=95))=true->(k=0->zK3 b=true)->zYy (λe w'=>e=.returned (.bool (zZg s))/\Pu w w') J s (k:Int) [] w3:=λ{w3} am h1 h2=>by
   show J (IntKind.i64.wrap ((k:Int)+1)) w3
   rw[zQd (by omega) (by omega)]
   refine hJ _ _ hks ⟨by omega,aj.trans am,?_,?_⟩
   ·rw[zZY _ ag,ha,h1];rfl
   ·by_cases h0:k=0
    ·subst h0;rw[zQP ag];simp[h2 rfl]
    ·have:((s.data.toList.take (k+1)).take 1)=(s.data.toList.take k).take 1:=by rw[List.take_take,List.take_take];congr 1;omega
     rw[this];exact hf
  have no:∀{w3:World},Pu w2 w3->((zK3 b || zY3 b || decide (b.toNat=95))=false∨(k=0/\zK3 b=false))->(Ending.returned (Value.bool false)=Ending.returned (Value.bool (zZg s))/\Pu w w3):=λ{w3} am h=>by
   refine⟨?_,aj.trans am⟩
   have hm:b ∈ s.data.toList:=List.mem_of_getElem? ag
   rcases h with h|⟨h0,h⟩
   ·have:s.data.toList.all (λb=>zK3 b || zY3 b || decide (b.toNat=95))=false:=by
     rw[List.all_eq_false];exact⟨b,hm,by rw[h];simp⟩
    rw[en,this];rfl
   ·subst h0
    have:(s.data.toList.take 1).all zK3=false:=by rw[zQP ag];simp[h]
    rw[en,this];simp
  refine⟨b,by omega,by rw[zQI];exact ay,?_⟩
  have tail:zK3 b=false->Br ((k:Int) == 0) (Ending.returned (Value.bool false)=Ending.returned (Value.bool (zZg s))/\Pu w w2) (Br (((b.toNat:Nat):Int) != 95) (Calls prog 148 #[.int .u8 ((b.toNat:Nat):Int)] w2 λe w3=>∃wE:Bool,e=.returned (.bool wE)/\Br (!wE) (Ending.returned (Value.bool false)=Ending.returned (Value.bool (zZg s))/\Pu w w3) (zYy (λe w'=>e=.returned (.bool (zZg s))/\Pu w w') J s (k:Int) [] w3)) (zYy (λe w'=>e=.returned (.bool (zZg s))/\Pu w w') J s (k:Int) [] w2)):=λhc=>by
   refine Br.of (λd3=>no (Pu.refl _) (.inr ⟨by have:=zQA d3;omega,hc⟩)) (λd3=>Br.of (λd4=>(yKI b w2).mono ?_) (λd4=>go (Pu.refl _) ?_ (λh=>absurd (by omega) (zQo d3))))
   ·rintro e w3 ⟨rfl,am⟩
    refine⟨_,rfl,Br.of (λd5=>no am (.inl ?_)) (λd5=>go am ?_ (λh=>absurd (by omega) (zQo d3)))⟩
    ·have d5:zY3 b=false:=by simpa using d5
     have d4:=zQ4 d4
     rw[hc,d5,decide_eq_false (by omega)];rfl
    ·have d5:zY3 b=true:=by simpa using d5
     rw[d5];simp
   ·have:=zQu d4
    rw[decide_eq_true (show b.toNat=95 by omega)];simp
  refine Br.of (λd3=>Br.of (λd4=>?_) (λd4=>go (Pu.refl _) ?_ (λ_=>?_))) (λd3=>?_)
  ·refine tail ?_
   have d4:¬((b.toNat:Nat):Int)<=90:=by simpa using d4
   unfold zK3;rw[decide_eq_false (show ¬b.toNat<=90 by omega)];simp
  ·have d3:=zQm d3
   have d4:((b.toNat:Nat):Int)<=90:=by simpa using d4
   unfold zK3;rw[decide_eq_true (show b.toNat<=90 by omega),decide_eq_true (show 65<=b.toNat by omega)];rfl
  ·have d3:=zQm d3
   have d4:((b.toNat:Nat):Int)<=90:=by simpa using d4
   unfold zK3;rw[decide_eq_true (show b.toNat<=90 by omega),decide_eq_true (show 65<=b.toNat by omega)];rfl
  ·refine tail ?_
   have d3:=zQh d3
   unfold zK3;rw[decide_eq_false (show ¬65<=b.toNat by omega)];simp
 ·have ak:k=s.size:=by have:=zQh d2;omega
  refine⟨?_,aj⟩
  rw[ak,show s.size=s.data.toList.length by simp,List.take_length]at ha hf
  rw[en,ha,hf];rfl
end Go.Proofs.YtcihcbfcgjepfaaGreatDoor
/- Table: fields and pages: which are right; empty values. No condition. -/
namespace Go.Proofs.YtcihcbfcgjepfaaGreatDoor
open Go.Sh Go.RowKit Tryz
theorem zZy{p q:Prop}[Decidable p][Decidable q](h:p ↔ q):decide p=decide q:=by simp[h]
abbrev yXu(f:Fld):Value:=.agg #[.string f.name,.int .i64 f.kind,.int .i64 f.width,.bool f.null]
abbrev zZh(v:Val):Value:=.agg #[.int .i64 v.kind,.int .i64 v.n,.string v.s]
theorem yXM(n:Int)(w:World):Calls prog 92 #[.int .i64 n] w λe w'=>e=.returned (.bool (zXm n))/\Pu w w':=by
 refine yVZ _ w _ (Br.of (λd=>?_) (λd=>?_))
 ·exact⟨by rw[zXm,decide_eq_true (show 0<=n from zQm d)];rfl,Pu.refl w⟩
 ·exact⟨by rw[zXm,decide_eq_false (show ¬0<=n from zQh d)];rfl,Pu.refl w⟩
theorem zYD(n:Int)(w:World):Calls prog 41 #[.int .i64 n] w λe w'=>e=.returned (.bool (zXm n))/\Pu w w':=by
 refine yW6 _ w _ (Br.of (λd=>?_) (λd=>?_))
 ·exact⟨by rw[zXm,decide_eq_true (show 0<=n from zQm d)];rfl,Pu.refl w⟩
 ·exact⟨by rw[zXm,decide_eq_false (show ¬0<=n from zQh d)];rfl,Pu.refl w⟩
theorem yVK(k:Int):∃n a b x y,(zX2 k).elim (.agg #[.int .u8 0,.int .i64 0,.int .i64 0,.nilFunc,.nilFunc]) yQ8=.agg #[.int .u8 n,.int .i64 a,.int .i64 b,x,y]/\yQ5 x=true/\yQ5 y=true/\
  (zX2 k).isSome=decide (k=1∨k=2∨k=3∨k=4∨k=5)/\((zX2 k).isSome=true->∀m:Int,zWi k m=(decide (a<=m) && decide (m<=b))):=by
 rcases zKi k with⟨rfl,h⟩|⟨rfl,h⟩|⟨rfl,h⟩|⟨rfl,h⟩|⟨rfl,h⟩|⟨h1,h2,h3,h4,h5,h⟩
 ·rw[h];refine⟨_,_,_,_,_,rfl,rfl,rfl,rfl,λ_ m=>?_⟩
  show decide (m=1)=(decide (1<=m) && decide (m<=1))
  rw[←Bool.decide_and];exact zZy (by omega)
 ·rw[h];exact⟨_,_,_,_,_,rfl,rfl,rfl,rfl,λ_ m=>rfl⟩
 ·rw[h];refine⟨_,_,_,_,_,rfl,rfl,rfl,rfl,λ_ m=>?_⟩
  show decide (m=8)=(decide (8<=m) && decide (m<=8))
  rw[←Bool.decide_and];exact zZy (by omega)
 ·rw[h];exact⟨_,_,_,_,_,rfl,rfl,rfl,rfl,λ_ m=>rfl⟩
 ·rw[h];refine⟨_,_,_,_,_,rfl,rfl,rfl,rfl,λ_ m=>?_⟩
  show decide (m=8)=(decide (8<=m) && decide (m<=8))
  rw[←Bool.decide_and];exact zZy (by omega)
 ·rw[h];exact⟨_,_,_,_,_,rfl,rfl,rfl,by simp[h1,h2,h3,h4,h5],λhn=>by simp at hn⟩
theorem yZz {k:Int} (h:(zX2 k).isSome=false) (m:Int):zWi k m=false:=by
 rcases zKi k with⟨rfl,h1⟩|⟨rfl,h1⟩|⟨rfl,h1⟩|⟨rfl,h1⟩|⟨rfl,h1⟩|⟨h1,h2,h3,h4,h5,_⟩
 ·rw[h1]at h;simp at h
 ·rw[h1]at h;simp at h
 ·rw[h1]at h;simp at h
 ·rw[h1]at h;simp at h
 ·rw[h1]at h;simp at h
 ·unfold zWi;rw[if_neg h1,if_neg h2,if_neg h3,if_neg h4,if_neg h5]
theorem ones5{n a b:Int}{x y:Value}(hx:yQ5 x=true)(hy:yQ5 y=true):(#[.int .u8 n,.int .i64 a,.int .i64 b,x,y]:Array Value).toList.all yQ5=true:=by
 show([.int .u8 n,.int .i64 a,.int .i64 b,x,y]:List Value).all yQ5=true
 simp only[List.all_cons,List.all_nil,hx,hy];rfl
theorem s102:zX1 prog 184=5:=by kernel_rfl
theorem s25:zX1 prog 28=3:=by kernel_rfl
theorem s23:zX1 prog 38=4:=by kernel_rfl
theorem yQe(f:Fld)(hs:f.name.size<=140737488355328)(w:World):Calls prog 106 #[yXu f] w λe w'=>e=.returned (.bool (zQ5 f))/\Pu w w':=by
 refine yJt _ _ _ _ w _ ?_
 refine alB λw1 al ay=>zQf λw2 aj hh2=>?_
 have cV:=al.trans aj
 refine⟨λw'=>Pu w2 w',Pu.refl _,f.kind,λw' hw'=>hw'.cell (aj.cell (cl ay 1)),?_⟩
 obtain⟨n,a,b,x,y,hk,hx,hy,hsome,hkw⟩:=yVK f.kind
 have main:∀{w3 w4:World} {r:Nat},Pu w1 w3->w3.heap[r]?=some (.cells #[.int .u8 n,.int .i64 a,.int .i64 b,x,y] 184)->Pu w w3->
   yXT (λe w'=>e=.returned (.bool (zQ5 f))/\Pu w w') (some (⟨w.heap.size,0,none⟩:Addr)) (some (⟨r,0,none⟩:Addr)) (zX2 f.kind).isSome [] w3:=λ{w3 w4 r} q1 q2 q3=>by
  have no:∀{w5:World},Pu w w5->zQ5 f=false->(Ending.returned (Value.bool false)=Ending.returned (Value.bool (zQ5 f))/\Pu w w5):=λh1 h2=>⟨by rw[h2],h1⟩
  have aH:=q1.blk ay
  refine Br.of (λd=>⟨f.name,cl0 aH,(yYT f.name hs w3).mono ?_⟩) (λd=>no q3 ?_)
  ·rintro e w5 ⟨rfl,aB⟩
   have aP:=aB.blk aH
   have hr5:=aB.blk q2
   refine⟨_,rfl,Br.of (λd1=>⟨_,cl aP 2,_,cl hr5 1,Br.of (λd2=>⟨_,cl aP 2,_,cl hr5 2,?_,q3.trans aB⟩) (λd2=>no (q3.trans aB) ?_)⟩) (λd1=>no (q3.trans aB) ?_)⟩
   ·unfold zQ5;rw[d1,hkw d,decide_eq_true (show a<=f.width from zQm d2)];rfl
   ·unfold zQ5;rw[d1,hkw d,decide_eq_false (show ¬a<=f.width from zQh d2)];rfl
   ·unfold zQ5;rw[d1];rfl
  ·unfold zQ5;rw[yZz d];simp
 have hlook:∀{m:Nat} {w':World},zQ3 w' xQ8 yQ8 m yQn->(Instr.lookup 186 (.map (some m)) (.int .i64 f.kind) true).run prog w'=.ok (.tuple #[.agg #[.int .u8 n,.int .i64 a,.int .i64 b,x,y],.bool (zX2 f.kind).isSome]) w':=λ{m w'} hm=>by
  rw[yKP hm,hk];rfl
 constructor
 ·refine(yJY w2).mono ?_
  rintro e w3 ⟨m,rfl,hm,_,am⟩
  refine⟨some m,rfl,λw'=>Pu w3 w',Pu.refl _,λu hu=>am.trans hu,n,a,b,x,y,(zX2 f.kind).isSome,λw' hw'=>hlook (hm.pu hw'),?_⟩
  refine alB λw4 ar aZ=>⟨λw'=>Pu w3 w',ar,λu hu=>hu,?_⟩
  refine zQj aZ s102.symm rfl (ones5 hx hy) λw5 aP bT rI=>?_
  have bw:Pu w3 w5:=ar.andNew bT λi hi=>by omega
  exact main (w4:=w4) ((aj.trans am).trans bw) aP (cV.trans (am.trans bw))
 ·refine alB λw4 ar aZ=>⟨λw'=>Pu w4 w',Pu.refl _,λu hu=>ar.trans hu,?_⟩
  refine(yJY w4).mono ?_
  rintro e w3 ⟨m,rfl,hm,_,am⟩
  refine⟨some m,rfl,λw'=>Pu w3 w',Pu.refl _,λu hu=>am.trans hu,n,a,b,x,y,(zX2 f.kind).isSome,λw' hw'=>hlook (hm.pu hw'),?_⟩
  refine zQj (am.blk aZ) s102.symm rfl (ones5 hx hy) λw5 aP bT rI=>?_
  have kw:Pu w2 w5:=(ar.trans am).andNew bT λi hi=>by omega
  exact main (w4:=w4) (aj.trans kw) aP (cV.trans kw)
theorem zV0(f:Fld)(w:World):Calls prog 44 #[yXu f] w λe w'=>e=.returned (.bool (zQ5 f))/\Pu w w':=by
 refine yWZ _ _ _ _ w _ ?_
 refine alB λw1 al ay=>⟨_,cl0 ay,(yK4 f.name w1).mono ?_⟩
 rintro e w2 ⟨rfl,aj⟩
 have ag:=aj.blk ay
 have q2:=al.trans aj
 have out:∀{b:Bool},b=zQ5 f->(Ending.returned (Value.bool b)=Ending.returned (Value.bool (zQ5 f))/\Pu w w2):=λh=>⟨by rw[h],q2⟩
 have two:∀{lo hi:Int},(zZg f.name=true->zWi f.kind f.width=(decide (lo<=f.width) && decide (f.width<=hi)))->zZg f.name=true->
   Br (decide (f.width >= lo)) (∃n:Int,w2.cell? ((⟨w.heap.size,0,none⟩:Addr).add 2)=some (.int .i64 n)/\(Ending.returned (Value.bool (decide (n<=hi)))=Ending.returned (Value.bool (zQ5 f))/\Pu w w2)) (Ending.returned (Value.bool false)=Ending.returned (Value.bool (zQ5 f))/\Pu w w2):=λ{lo hi} h h0=>
  Br.of (λd=>⟨_,cl ag 2,out (by unfold zQ5;rw[h0,h h0,decide_eq_true (show lo<=f.width from zQm d)];rfl)⟩) (λd=>out (by unfold zQ5;rw[h0,h h0,decide_eq_false (show ¬lo<=f.width from zQh d)];rfl))
 refine⟨_,rfl,Br.of (λd=>out ?_) (λd=>?_)⟩
 ·have:zZg f.name=false:=by simpa using d
  unfold zQ5;rw[this];rfl
 have hn:zZg f.name=true:=by simpa using d
 have ef:zQ5 f=zWi f.kind f.width:=by unfold zQ5;rw[hn];rfl
 refine⟨_,cl ag 1,Br.of (λd1=>⟨_,cl ag 2,out ?_⟩) (λd1=>Br.of (λd2=>⟨_,cl ag 2,two ?_ hn⟩) (λd2=>Br.of (λd3=>Br.of (λd4=>⟨_,cl ag 2,out ?_⟩) (λd4=>?_)) (λd3=>Br.of (λd4=>⟨_,cl ag 2,out ?_⟩) (λd4=>Br.of (λd5=>⟨_,cl ag 2,two ?_ hn⟩) (λd5=>out ?_)))))⟩
 ·rw[ef,zQA d1];show(f.width == 1)=decide (f.width=1);simp[BEq.beq]
 ·intro _;rw[zQA d2];rfl
 ·rw[ef,zQA d3];show(f.width == 8)=decide (f.width=8);simp[BEq.beq]
 ·exact absurd (zQA d3) (zQo d4)
 ·rw[ef,zQA d4];show(f.width == 8)=decide (f.width=8);simp[BEq.beq]
 ·intro _;rw[zQA d5];rfl
 ·rw[ef];unfold zWi;rw[if_neg (zQo d1),if_neg (zQo d2),if_neg (zQo d3),if_neg (zQo d5),if_neg (zQo d4)]
theorem yKw(f:Fld)(w:World):Calls prog 108 #[yXu f] w λe w'=>e=.returned (zZh (zQ9 f))/\Pu w w':=by
 refine yJc _ _ _ _ w _ ?_
 refine alB λw1 al ay=>alB λw2 aj ag=>⟨_,cl (aj.blk ay) 1,Br.of (λd=>?_) (λd=>⟨_,cl (aj.blk ay) 1,?_⟩)⟩
 ·refine zQj ag s25.symm rfl rfl λw3 aH bP pL=>?_
  have aQ:Pu w w3:=al.trans (aj.andNew bP λi hi=>by omega)
  exact⟨_,cl aH 0,_,cl aH 1,_,cl aH 2,by unfold zQ9;rw[if_pos (zQA d)],aQ⟩
 ·refine zQj ag s25.symm rfl rfl λw3 aH bP pL=>?_
  have aQ:Pu w w3:=al.trans (aj.andNew bP λi hi=>by omega)
  exact⟨_,cl aH 0,_,cl aH 1,_,cl aH 2,by unfold zQ9;rw[if_neg (zQo d)],aQ⟩
theorem xJH(s:ByteArray)(w:World):Calls prog 101 #[.string s] w λe w'=>e=.returned (zZh ⟨4,0,s⟩)/\Pu w w':=by
 refine yJH _ w _ ?_
 refine alB λw2 aj ag=>?_
 refine zQj ag s25.symm rfl rfl λw3 aH bP pL=>?_
 exact⟨_,cl aH 0,_,cl aH 1,_,cl aH 2,rfl,aj.andNew bP λi hi=>by omega⟩
end Go.Proofs.YtcihcbfcgjepfaaGreatDoor
/- Table: numbers in digits; blanks at a text's end. No condition. -/
namespace Go.Proofs.YtcihcbfcgjepfaaGreatDoor
open Go.Sh Go.RowKit Tryz
theorem zZA(a b:List UInt8):bs a ++ bs b=bs (a ++ b):=zZd (by simp[bs])
theorem zXt(s:ByteArray)(i j:Nat):(s.extract i j).data.toList=(s.data.toList.take j).drop i:=by
 rw[ByteArray.data_extract,Array.toList_extract,List.extract_eq_take_drop,List.drop_take]
theorem zWn:∀k:Nat,k<10->(⟨#[48,49,50,51,52,53,54,55,56,57]⟩:ByteArray).extract k (k+1)=bs [UInt8.ofNat (48+k)]:=by
 intro k hk
 apply zZd
 rw[zXt,zJw]
 match k,hk with
 | 0,_=>rfl
 | 1,_=>rfl
 | 2,_=>rfl
 | 3,_=>rfl
 | 4,_=>rfl
 | 5,_=>rfl
 | 6,_=>rfl
 | 7,_=>rfl
 | 8,_=>rfl
 | 9,_=>rfl
theorem zZt{n:Nat}(h:n<10):zJb n=[UInt8.ofNat (48+n)]:=by rw[zJb,dif_pos h]
theorem zZ3{n:Nat}(h:¬n<10):zJb n=zJb (n / 10) ++ [UInt8.ofNat (48+n % 10)]:=by rw[zJb,dif_neg h]
theorem zJ3(n:Nat):(zJb n).length<=n+1:=by
 induction n using Nat.strongRecOn with
 | _ n ih=>
  by_cases h:n<10
  ·rw[zZt h];simp
  ·rw[zZ3 h]
   have:=ih (n / 10) (by omega)
   simp only[List.length_append,List.length_singleton];omega
theorem yX8(n:Nat):1<=(zJb n).length:=by
 by_cases h:n<10
 ·rw[zZt h];simp
 ·rw[zZ3 h];simp
theorem zVo(n:Nat):∀b ∈ zJb n,48<=b.toNat/\b.toNat<=57:=by
 induction n using Nat.strongRecOn with
 | _ n ih=>
  have one:∀k,k<10->48<=(UInt8.ofNat (48+k)).toNat/\(UInt8.ofNat (48+k)).toNat<=57:=λk hk=>by simp;omega
  by_cases h:n<10
  ·rw[zZt h];intro b hb;simp only[List.mem_singleton]at hb;subst hb;exact one n h
  ·rw[zZ3 h];intro b hb
   rcases List.mem_append.1 hb with hb|hb
   ·exact ih (n / 10) (by omega) b hb
   ·simp only[List.mem_singleton]at hb;subst hb;exact one _ (by omega)
theorem yZn:∀(n:Nat),n<=4611686018427387904->∀w:World,Calls prog 159 #[.int .i64 (n:Int)] w λe w'=>e=.returned (.string (bs (zJb n)))/\Pu w w':=by
 intro n
 induction n using Nat.strongRecOn with
 | _ n ih=>
  intro hn w
  refine zVP _ w _ (Br.of (λd=>absurd (zQm d) (by omega)) (λd=>Br.of (λd1=>?_) (λd1=>zQf λw4 ar _=>?_)))
  ·have d1:n<10:=by have:=zQm d1;omega
   rw[zQd (by omega) (by omega)]
   refine⟨by omega,?_,by omega,by omega,?_,Pu.refl w⟩
   ·show _<=10;omega
   ·rw[zQI,show((n:Int)+1).toNat=n+1 by omega,zWn n d1,zZt d1]
  ·have d1:¬n<10:=by have:=zQh d1;omega
   have e1:((n:Int).tmod 10)=((n % 10:Nat):Int):=by rw[Int.tmod_eq_emod_of_nonneg (by omega)];omega
   have e2:((n:Int).tdiv 10)=((n / 10:Nat):Int):=by rw[Int.tdiv_eq_ediv_of_nonneg (by omega)];omega
   rw[e1,e2,zQd (by omega) (by omega),zQd (by omega) (by omega)]
   have e3:(((n % 10:Nat):Int)+1).toNat=n % 10+1:=by omega
   rw[e3,zQI,zWn (n % 10) (by omega)]
   refine⟨rfl,by omega,rfl,by omega,rfl,by omega,by omega,?_,by omega,by omega,(ih (n / 10) (by omega) (by omega) w4).mono ?_⟩
   ·show _<=10;omega
   rintro e w5 ⟨rfl,aB⟩
   refine⟨_,rfl,?_,?_,ar.trans aB⟩
   ·rw[zXI,zXI];have:=zJ3 (n / 10);simp only[List.length_singleton];omega
   ·rw[zZA,zZ3 d1]
theorem zVW(n:Nat):zJV (n:Int)=zJb n:=by unfold zJV;rw[if_neg (by omega)];rfl
theorem zWm{n:Int}(h:n<0):zJV n=45 :: zJb n.natAbs:=by unfold zJV;rw[if_pos h]
theorem dec_c{n:Int}(h1:-4611686018427387904<=n)(h2:n<=4611686018427387904)(w:World):Calls prog 159 #[.int .i64 n] w λe w'=>e=.returned (.string (bs (zJV n)))/\Pu w w':=by
 by_cases h:n<0
 ·refine zVP _ w _ (Br.of (λd=>?_) (λd=>absurd h (zQh d)))
  rw[zQd (by omega) (by omega)]
  have e:(0 - n:Int)=((n.natAbs:Nat):Int):=by omega
  rw[e]
  refine(yZn n.natAbs (by omega) w).mono ?_
  rintro e w2 ⟨rfl,hp⟩
  refine⟨_,rfl,?_,?_,hp⟩
  ·have e4:=zXI (zJb n.natAbs);have:=zJ3 n.natAbs;show(((1+(bs (zJb n.natAbs)).size:Nat)):Int)<=_;omega
  ·rw[zWm h];exact congrArg (λx=>Ending.returned (Value.string x)) (zZA [45] _)
 ·obtain⟨k,rfl⟩:∃k:Nat,n=k:=⟨n.toNat,by omega⟩
  rw[zVW]
  exact yZn k (by omega) w
theorem zWb:∀(n:Nat),n<=9223372036854775807->∀w:World,Calls prog 147 #[.int .i64 (n:Int)] w λe w'=>e=.returned (.string (bs (zJb n)))/\Pu w w':=by
 intro n
 induction n using Nat.strongRecOn with
 | _ n ih=>
  intro hn w
  refine zVu _ w _ (Br.of (λd=>absurd (zQm d) (by omega)) (λd=>Br.of (λd1=>?_) (λd1=>?_)))
  ·have d1:n<10:=by have:=zQm d1;omega
   rw[zQd (by omega) (by omega)]
   refine⟨by omega,?_,by omega,by omega,?_,Pu.refl w⟩
   ·show _<=10;omega
   ·rw[zQI,show((n:Int)+1).toNat=n+1 by omega,zWn n d1,zZt d1]
  ·have d1:¬n<10:=by have:=zQh d1;omega
   have e1:((n:Int).tmod 10)=((n % 10:Nat):Int):=by rw[Int.tmod_eq_emod_of_nonneg (by omega)];omega
   have e2:((n:Int).tdiv 10)=((n / 10:Nat):Int):=by rw[Int.tdiv_eq_ediv_of_nonneg (by omega)];omega
   rw[e1,e2,zQd (by omega) (by omega)]
   refine⟨rfl,by omega,(ih (n / 10) (by omega) (by omega) w).mono ?_⟩
   rintro e w5 ⟨rfl,aB⟩
   refine⟨_,rfl,rfl,by omega,(ih (n % 10) (by omega) (by omega) w5).mono ?_⟩
   rintro e w6 ⟨rfl,bx⟩
   refine⟨_,rfl,?_,?_,aB.trans bx⟩
   ·rw[zXI,zXI];have:=zJ3 (n / 10);have:=zJ3 (n % 10);omega
   ·rw[zZA,zZ3 d1,zZt (show n % 10<10 by omega)]
theorem yVG:zJV (-9223372036854775808)=[45,57,50,50,51,51,55,50,48,51,54,56,53,52,55,55,53,56,48,56]:=by decide +kernel
theorem yWa{n:Int}(hn:zJU n)(w:World):Calls prog 147 #[.int .i64 n] w λe w'=>e=.returned (.string (bs (zJV n)))/\Pu w w':=by
 obtain⟨h1,h2⟩:=hn
 by_cases h:n<0
 ·refine zVu _ w _ (Br.of (λd=>Br.of (λd1=>?_) (λd1=>?_)) (λd=>absurd h (zQh d)))
  ·rw[zQA d1,yVG];exact⟨rfl,Pu.refl w⟩
  have d1:=zQo d1
  rw[zQd (by omega) (by omega)]
  have e:(0 - n:Int)=((n.natAbs:Nat):Int):=by omega
  rw[e]
  refine(zWb n.natAbs (by omega) w).mono ?_
  rintro e w2 ⟨rfl,hp⟩
  have hl:(zJb n.natAbs).length<9223372036854775807:=by
   by_cases pN:n.natAbs<10
   ·rw[zZt pN];simp
   ·rw[zZ3 pN];have:=zJ3 (n.natAbs / 10);simp only[List.length_append,List.length_singleton];omega
  refine⟨_,rfl,?_,?_,hp⟩
  ·have e4:=zXI (zJb n.natAbs);show(((1+(bs (zJb n.natAbs)).size:Nat)):Int)<=_;omega
  ·rw[zWm h];exact congrArg (λx=>Ending.returned (Value.string x)) (zZA [45] _)
 ·obtain⟨k,rfl⟩:∃k:Nat,n=k:=⟨n.toNat,by omega⟩
  rw[zVW]
  exact zWb k (by omega) w
theorem zVc(b:UInt8):∀n,Lib.repeatL [b] n=List.replicate n b
 | 0=>rfl
 | n+1=>by rw[List.replicate_succ,←zVc b n];rfl
theorem yXK(b:UInt8)(n:Nat)(hn:n<=140737488355328)(w:World):Calls prog 160 #[.string ⟨#[b]⟩,.int .i64 (n:Int)] w λe w'=>e=.returned (.string (bs (List.replicate n b)))/\Pu w w':=by
 have h:=Any.strings_Repeat Tryz.lays105 Tryz.Builder_Extra_105 ⟨#[b]⟩ n w (by omega) (by show 1 * n<=_;omega)
 have e:Lib.repeatL (⟨#[b]⟩:ByteArray).data.toList n=List.replicate n b:=zVc b n
 rw[e]at h
 exact h
theorem yQA(s:ByteArray)(hs:s.size<=140737488355328)(w:World):Calls prog 109 #[.string s,.string ⟨#[32]⟩] w λe w'=>e=.returned (.string (bs (zZf s.data.toList)))/\Pu w w':=
 (Any.strings_TrimRight_one Tryz.lays162 s 32 (by decide) w (by omega)).mono λe w' ⟨h1,h2⟩=>⟨h1,h2 ▸ Pu.refl _⟩
theorem zWM(l:List UInt8)(b:UInt8):zZf (l ++ [b])=if b=32 then zZf l else l ++ [b]:=by
 unfold zZf
 rw[List.reverse_append,List.reverse_singleton,List.singleton_append,List.dropWhile_cons]
 by_cases h:b=32
 ·simp[h]
 ·simp[h]
theorem yKb(s:ByteArray)(hs:s.size<=9223372036854775807)(w:World):Calls prog 99 #[.string s] w λe w'=>e=.returned (.string (bs (zZf s.data.toList)))/\Pu w w':=by
 refine yKv _ w _ ?_
 refine zQ1 s.size (λk t w'=>t=((s.size - k:Nat):Int)/\Pu w w'/\zZf s.data.toList=zZf (s.data.toList.take (s.size - k))) ⟨rfl,Pu.refl _,by rw[Nat.sub_zero,show s.size=s.data.toList.length by simp,List.take_length]⟩ ?_
 rintro k J t w2 hk ⟨ht,hp,hb⟩ hJ
 obtain rfl:t=((s.size - k:Nat):Int):=ht
 have fin:zZf (s.data.toList.take (s.size - k))=s.data.toList.take (s.size - k)->yJU (λe w'=>e=.returned (.string (bs (zZf s.data.toList)))/\Pu w w') s ((s.size - k:Nat):Int) [] w2:=λh=>by
  refine⟨by omega,by rw[zQI];omega,by omega,?_,hp⟩
  rw[zQI,hb,h]
  congr 2
  exact zZd (by rw[zXt,zJw];rfl)
 refine Br.of (λd=>?_) (λd=>fin ?_)
 ·have ak:k<s.size:=by have:=zQm d;omega
  rw[yJU]at fin
  have e1:((s.size - k:Nat):Int) - 1=((s.size - (k+1):Nat):Int):=by omega
  rw[e1,zQd (by omega) (by omega)]
  obtain⟨b,ay,ag⟩:=zWW (s:=s) (k:=s.size - (k+1)) (by omega)
  have et:s.data.toList.take (s.size - k)=s.data.toList.take (s.size - (k+1)) ++ [b]:=by
   rw[show s.size - k=s.size - (k+1)+1 by omega,zQP ag]
  refine⟨b,by omega,by rw[zQI];exact ay,Br.of (λd1=>hJ _ _ ak ⟨rfl,hp,?_⟩) (λd1=>fin ?_)⟩
  ·have:b=32:=by have:=zQA d1;apply UInt8.toNat_inj.1;show b.toNat=32;omega
   rw[hb,et,zWM,if_pos this]
  ·have:¬b=32:=λh=>zQo d1 (by rw[h];rfl)
   rw[et,zWM,if_neg this]
 ·have:s.size - k=0:=by have:=zQh d;omega
  rw[this];rfl
end Go.Proofs.YtcihcbfcgjepfaaGreatDoor
/- Table: pages of characters; which texts a page has. No condition. -/
namespace Go.Proofs.YtcihcbfcgjepfaaGreatDoor
open Go.Sh Go.RowKit Tryz
def yXB(w:World)(r:Nat)(g:Nat->Bool):Prop:=∃c,w.heap[r]?=some (.cells c 215)/\c.size=768/\∀i,i<768->∃n:Int,c[i]?=some (.int .i32 n)/\decide (n<0)=g i
theorem yXB.ext{w:World}{r:Nat}{g g':Nat->Bool}(h:yXB w r g)(e:∀i,i<768->g i=g' i):yXB w r g':=
 let ⟨c,h1,h2,h3⟩:=h;⟨c,h1,h2,λi hi=>let ⟨n,h4,h5⟩:=h3 i hi;⟨n,h4,h5.trans (e i hi)⟩⟩
theorem yXB.fr{B:Nat->Prop}{w w':World}{r:Nat}{g:Nat->Bool}(h:yXB w r g)(hf:Fr B w w')(hn:¬B r):yXB w' r g:=
 let ⟨c,h1,h2⟩:=h;⟨c,hf.blk h1 hn,h2⟩
theorem yXB.st{w:World}{r:Nat}{g:Nat->Bool}(h:yXB w r g){j:Nat}(hj:j<768)(n:Int)(a:Addr)(ha:a=⟨r,j,none⟩){K:World->Prop}
  (hK:∀w',yXB w' r (λi=>if i=j then decide (n<0)else g i)->Fr (·=r) w w'->K w'):st1 a (.int .i32 n) w K:=by
 subst ha
 obtain⟨c,h1,h2,h3⟩:=h
 refine zQt h1 (by omega) λw' hw' hb'=>hK w' ⟨_,hb',by simp[h2],λi hi=>?_⟩ (by rw[hw'];exact Fr.cell w r j _)
 by_cases e:i=j
 ·subst e;exact⟨n,by simp[h2,hi],by simp⟩
 ·obtain⟨m,h4,h5⟩:=h3 i hi
  exact⟨m,by rw[Array.getElem?_setIfInBounds_ne (Ne.symm e)];exact h4,by simp[e,h5]⟩
theorem i32_in{n:Int}(h1:-2147483648<=n)(h2:n<=2147483647):IntKind.i32.wrap n=n:=Go.IntWalk.i32_in n ⟨h1,h2⟩
theorem xJD:zc prog 215=Array.replicate 768 (.int .i32 0):=by kernel_rfl
theorem s149:zX1 prog 215=768:=by kernel_rfl
def sg1(k i:Nat):Bool:=decide ((128<=i/\i<k)∨(640<=i/\i<512+k))
def sg2(k i:Nat):Bool:=decide ((128<=i/\i<256)∨(512+k<=i/\i<768))
def sg3(k i:Nat):Bool:=decide ((128<=i/\i<256)∨(688<=i/\i<736)∨(512+k<=i/\i<768))
theorem ad1(r:Nat)(p k:Nat):(((⟨r,0,none⟩:Addr).add ((p:Int).toNat * 256)).add ((k:Int).toNat * 1))=⟨r,p * 256+k,none⟩:=by
 rw[zQc,zQc,zQI,zQI,Nat.zero_add,Nat.mul_one]
theorem xJ4(w:World):Calls prog 193 #[] w λe w'=>∃c:Array Value,e=.returned (.agg c)/\c.size=768/\(∀i,i<768->∃n:Int,c[i]?=some (.int .i32 n)/\decide (n<0)=sg3 240 i)/\Pu w w':=by
 refine yJK w _ ?_
 refine alB λw1 al ay=>alB λw2 aj ag=>?_
 have jQ:w.heap.size<w1.heap.size:=zQy ay
 have g0:yXB w2 w1.heap.size (sg1 0):=⟨_,ag,by rw[xJD];simp,λi hi=>⟨0,by rw[xJD];simp[hi],by unfold sg1;simp;omega⟩⟩
 -- the end
 have fin:∀{w3:World},yXB w3 w1.heap.size (sg3 240)->Fr (·=w1.heap.size) w2 w3->yWR (λe w'=>∃c:Array Value,e=.returned (.agg c)/\c.size=768/\(∀i,i<768->∃n:Int,c[i]?=some (.int .i32 n)/\decide (n<0)=sg3 240 i)/\Pu w w') (some (⟨w.heap.size,0,none⟩:Addr)) (some (⟨w1.heap.size,0,none⟩:Addr)) [] w3:=by
  intro w3 ⟨c,h1,h2,h3⟩ hf
  have aH:=hf.blk (aj.blk ay) (show ¬w.heap.size=w1.heap.size by omega)
  refine⟨c,h2,λi hi=>cl h1 i,?_⟩
  have ho:c.toList.all yQ5=true:=by
   rw[List.all_eq_true]
   intro v hv
   obtain⟨i,hi,rfl⟩:=List.getElem_of_mem hv
   have hi':i<c.size:=by simpa using hi
   obtain⟨n,h4,_⟩:=h3 i (by omega)
   rw[Array.getElem?_eq_getElem hi']at h4
   have h4:=Option.some.inj h4
   rw[Array.getElem_toList,h4];rfl
  refine zQj aH (by rw[s149,h2]) (by rw[xJD,h2];simp) ho λw4 aZ bp se=>?_
  refine⟨c,h2,λi hi=>cl aZ i,c,rfl,h2,h3,?_⟩
  have hpu:Pu w w3:=(al.trans aj).andNew hf λi hi=>by have hi:i=w1.heap.size:=hi;omega
  exact hpu.andNew bp λi hi=>by have hi:i=w.heap.size:=hi;omega
 refine zQ1 256 (λk t w'=>t=(k:Int)/\yXB w' w1.heap.size (sg1 k)/\Fr (·=w1.heap.size) w2 w') ⟨rfl,g0,Fr.refl _ _⟩ ?_
 rintro k J t w3 hk ⟨ht,hg,hf⟩ hJ
 obtain rfl:t=(k:Int):=ht
 refine Br.of (λd=>?_) (λd=>?_)
 ·have ak:k<256:=by have:=zQm d;omega
  refine⟨by omega,by omega,by omega,by omega,?_⟩
  rw[i32_in (by omega) (by omega)]
  refine hg.st (j:=256+k) (by omega) (k:Int) _ (ad1 _ 1 k) λw4 vZ bp=>?_
  rw[zQd (by omega) (by omega)]
  refine Br.of (λd1=>?_) (λd1=>?_)
  ·have d1:128<=k:=by have:=zQm d1;omega
   refine⟨by omega,by omega,by omega,by omega,vZ.st (j:=0+k) (by omega) (-1) _ (ad1 _ 0 k) λw5 hg5 bT=>⟨by omega,by omega,by omega,by omega,hg5.st (j:=512+k) (by omega) (-1) _ (ad1 _ 2 k) λw6 hg6 bb=>?_⟩⟩
   refine hJ _ _ ak ⟨by omega,hg6.ext λi hi=>?_,((hf.trans bp λ_ h _=>h).trans bT λ_ h _=>h).trans bb λ_ h _=>h⟩
   simp only[sg1]
   repeat' split
   all_goals first|(simp only[decide_eq_decide];omega)|(rw[eq_comm,decide_eq_true_iff];omega)|(rw[eq_comm];simp;omega)|(simp;omega)
  ·have d1:¬128<=k:=by have:=zQh d1;omega
   refine⟨by omega,by omega,by omega,by omega,vZ.st (j:=0+k) (by omega) (k:Int) _ (ad1 _ 0 k) λw5 hg5 bT=>⟨by omega,by omega,by omega,by omega,hg5.st (j:=512+k) (by omega) (k:Int) _ (ad1 _ 2 k) λw6 hg6 bb=>?_⟩⟩
   refine hJ _ _ ak ⟨by omega,hg6.ext λi hi=>?_,((hf.trans bp λ_ h _=>h).trans bT λ_ h _=>h).trans bb λ_ h _=>h⟩
   simp only[sg1]
   repeat' split
   all_goals first|(simp only[decide_eq_decide];omega)|(rw[eq_comm,decide_eq_true_iff];omega)|(rw[eq_comm];simp;omega)|(simp;omega)
 have ak:k=256:=by have:=zQh d;omega
 subst ak
 clear hJ J d
 refine zQ1 48 (λk t w'=>t=((128+k:Nat):Int)/\yXB w' w1.heap.size (sg2 (128+k))/\Fr (·=w1.heap.size) w2 w') ⟨rfl,hg.ext λi hi=>by unfold sg1 sg2;exact zZy (by omega),hf⟩ ?_
 rintro k J t w4 hk ⟨ht,hg,hf⟩ hJ
 obtain rfl:t=((128+k:Nat):Int):=ht
 refine Br.of (λd=>?_) (λd=>?_)
 ·have ak:k<48:=by have:=zQm d;omega
  refine⟨by omega,by omega,by omega,by omega,?_⟩
  rw[zQd (by omega) (by omega),i32_in (n:=((128+k:Nat):Int) - 128) (by omega) (by omega),i32_in (by omega) (by omega),zQd (by omega) (by omega)]
  refine hg.st (j:=512+(128+k)) (by omega) _ _ (ad1 _ 2 (128+k)) λw5 hg5 bT=>hJ _ _ ak ⟨by omega,hg5.ext λi hi=>?_,hf.trans bT λ_ h _=>h⟩
  simp only[sg2]
  split
  ·rw[decide_eq_decide];omega
  ·simp only[decide_eq_decide];omega
 have ak:k=48:=by have:=zQh d;omega
 subst ak
 clear hJ J d
 refine zQ1 16 (λk t w'=>t=((224+k:Nat):Int)/\yXB w' w1.heap.size (sg3 (224+k))/\Fr (·=w1.heap.size) w2 w') ⟨rfl,hg.ext λi hi=>by unfold sg3 sg2;exact zZy (by omega),hf⟩ ?_
 rintro k J t w5 hk ⟨ht,hg,hf⟩ hJ
 obtain rfl:t=((224+k:Nat):Int):=ht
 refine Br.of (λd=>?_) (λd=>?_)
 ·have ak:k<16:=by have:=zQm d;omega
  refine⟨by omega,by omega,by omega,by omega,?_⟩
  rw[zQd (by omega) (by omega),i32_in (n:=((224+k:Nat):Int) - 224) (by omega) (by omega),i32_in (by omega) (by omega),zQd (by omega) (by omega)]
  refine hg.st (j:=512+(224+k)) (by omega) _ _ (ad1 _ 2 (224+k)) λw5 hg5 bT=>hJ _ _ ak ⟨by omega,hg5.ext λi hi=>?_,hf.trans bT λ_ h _=>h⟩
  simp only[sg3]
  split
  ·rw[decide_eq_decide];omega
  ·simp only[decide_eq_decide];omega
 have ak:k=16:=by have:=zQh d;omega
 subst ak
 exact fin hg hf
theorem u149:prog.underlying 215=some (.array 3 214):=by kernel_rfl
theorem xQj{cs:Array Value}{p:Nat}(hp:p<3)(w:World):(Instr.index 215 (.agg cs) (.int .i64 (p:Int))).run prog w=.ok (.agg (cs.extract (p * 256) (p * 256+256))) w:=by
 have h1:(part 214 cs (p * 256)).run prog w=.ok (.agg (cs.extract (p * 256) (p * 256+256))) w:=by
  unfold part
  have a:(isAgg 214).run prog w=.ok true w:=Tryz.isAgg214 w
  have s:(sizeOf 214).run prog w=.ok 256 w:=Tryz.sizeOf214 w
  simp only[Sem.run_bind,a,Result.andThen_ok,if_true,s,Sem.run_pure]
 have s:(sizeOf 214).run prog w=.ok 256 w:=Tryz.sizeOf214 w
 unfold Instr.index
 simp only[asIntOf,Sem.run_bind,Sem.run_pure,Result.andThen_ok,zQv u149]
 have h0:(0:Int)<=(p:Int)/\(p:Int)<((3:Nat):Int):=by omega
 rw[if_pos h0]
 simp only[Sem.run_bind,s,Result.andThen_ok,zQI,h1]
theorem xJm {w:World} {r:Nat} {s:ByteArray} (p:Int) (hb:w.heap[r]?=some (.cells #[.string s] 9)):Calls prog 192 #[.int .i64 p,.slice (some ⟨r,0,none⟩) 1 1] w λe w'=>e=.returned (.int .i64 (if 2048<s.size then 3 else if zXm p then 0 else 1))/\Pu w w':=by
 refine yJ6 _ ⟨some ⟨r,0,none⟩,1,1⟩ w _ ?_
 refine zQ1 1 (λk t w'=>t=(k:Int)/\w'=w/\(0<k->¬2048<s.size)) ⟨rfl,rfl,λh=>by omega⟩ ?_
 rintro k J t w2 hk ⟨ht,hw,hs⟩ hJ
 obtain rfl:t=(k:Int):=ht
 obtain rfl:w2=w:=hw
 refine Br.of (λd=>?_) (λd=>?_)
 ·have dS:k=0:=by have:=zQm d;dsimp only at this;omega
  subst dS
  refine⟨_,rfl,by omega,by dsimp only;omega,s,cl hb 0,Br.of (λd1=>?_) (λd1=>?_)⟩
  ·exact⟨by rw[if_pos (show 2048<s.size by have:=zQm d1;omega)],Pu.refl _⟩
  ·rw[zQd (by omega) (by omega)]
   exact hJ _ _ (by omega) ⟨rfl,rfl,λ_=>by have:=zQh d1;omega⟩
 ·have hk1:k=1:=by have:=zQh d;dsimp only at this;omega
  subst hk1
  rw[if_neg (hs (by omega))]
  refine Br.of (λd1=>?_) (λd1=>Br.of (λd2=>?_) (λd2=>?_))
  ·have:=zQm d1;exact⟨by rw[if_neg];simp[zXm];omega,Pu.refl _⟩
  ·have:=zQm d2;exact⟨by rw[if_neg];simp[zXm];omega,Pu.refl _⟩
  ·have:=zQh d1;have:=zQh d2;exact⟨by rw[if_pos];simp[zXm];omega,Pu.refl _⟩
theorem on_sg{b:UInt8}{p:Nat}(hp:p<3):sg3 240 (p * 256+b.toNat)=!onB b (p:Int):=by
 have:=b.toNat_lt
 unfold sg3 onB
 rcases(by omega:p=0∨p=1∨p=2)with rfl|rfl|rfl
 ·rw[if_pos (by rfl),←decide_not];exact zZy (by omega)
 ·rw[if_neg (by omega),if_pos (by rfl)];simp;omega
 ·rw[if_neg (by omega),if_neg (by omega),←Bool.decide_and,←Bool.decide_or,←decide_not];exact zZy (by omega)
theorem u9:prog.underlying 9=some .string:=by kernel_rfl
theorem u37:prog.underlying 217=some (.slice 5):=by kernel_rfl
theorem u5:prog.underlying 5=some (.int .u8):=by kernel_rfl
theorem s148:zX1 prog 214=256:=by kernel_rfl
theorem zc148':zc prog 214=Array.replicate 256 (.int .i32 0):=by kernel_rfl
theorem zc148:(zc prog 214).size=256:=by rw[zc148'];simp
theorem yQ7(s:ByteArray)(hs:s.size<=140737488355328)(p:Int)(w:World):Calls prog 157 #[.string s,.int .i64 p] w λe w'=>
  e=.returned (.tuple #[.bool (decide (s.size<=2048) && zXm p && zXG s.data.toList p),.int .i64 (if 2048<s.size then 3 else if zXm p then 0 else 1)])/\Pu w w':=by
 refine yJB _ _ w _ ?_
 refine alB λw1 al ay=>(xJm p ay).mono ?_
 rintro e w2 ⟨rfl,aj⟩
 refine⟨_,rfl,Br.of (λd=>?_) (λd=>?_)⟩
 ·have d:=zQ4 d
  refine⟨?_,al.trans aj⟩
  have:(decide (s.size<=2048) && zXm p)=false:=by
   by_cases h:2048<s.size
   ·rw[decide_eq_false (by omega)];rfl
   ·cases h2:zXm p
    ·simp
    ·rw[if_neg h,h2]at d;exact absurd rfl d
  rw[this];rfl
 have d:=zQu d
 have fC:¬2048<s.size:=λh=>by rw[if_pos h]at d;omega
 have hpg:zXm p=true:=by
  cases h2:zXm p
  ·rw[if_neg fC,h2]at d;simp at d
  ·rfl
 obtain⟨q,rfl,hq⟩:∃q:Nat,p=q/\q<3:=⟨p.toNat,by simp[zXm]at hpg;omega,by simp[zXm]at hpg;omega⟩
 refine(xJ4 w2).mono ?_
 rintro e w3 ⟨c,rfl,hc,hn,am⟩
 refine⟨c,hc,rfl,c.extract (q * 256) (q * 256+256),by simp[hc];omega,w3,xQj hq w3,?_⟩
 have hat:∀i,i<256->∃n:Int,(c.extract (q * 256) (q * 256+256))[i]?=some (.int .i32 n)/\decide (n<0)=sg3 240 (q * 256+i):=λi hi=>by
  obtain⟨n,h1,h2⟩:=hn (q * 256+i) (by omega)
  refine⟨n,?_,h2⟩
  rw[Array.getElem?_extract,if_pos (by omega)]
  exact h1
 refine alB λw4 ar aZ=>zQj aZ (by rw[s148];simp[hc];omega) (by rw[zc148];simp[hc];omega) ?_ λw5 aP bT rI=>?_
 ·rw[List.all_eq_true]
  intro v hv
  obtain⟨i,hi,rfl⟩:=List.getElem_of_mem hv
  have hi':i<(c.extract (q * 256) (q * 256+256)).size:=by rw[←Array.length_toList];exact hi
  obtain⟨n,h4,_⟩:=hat i (by rw[Array.size_extract]at hi';omega)
  rw[Array.getElem?_eq_getElem hi']at h4
  have h4:=Option.some.inj h4
  rw[Array.getElem_toList,h4];rfl
 have bw:Pu w3 w5:=ar.andNew bT λi hi=>by have hi:i=w3.heap.size:=hi;omega
 obtain⟨l,w6,hcv,bx,hl⟩:=yJj (P:=prog) u9 u37 u5 s (by omega) w5
 have dx:=bx.blk aP
 have hlen:=hl.len
 have hlen2:s.data.toList.length=s.size:=by simp
 have e2:(decide (s.size<=2048) && zXm (q:Int) && zXG s.data.toList (q:Int))=zXG s.data.toList (q:Int):=by rw[hpg,decide_eq_true (by omega)];rfl
 refine⟨l,w6,hcv,zQ1 s.data.toList.length (λk t w'=>t=(k:Int)/\w'=w6/\zXG (s.data.toList.take k) (q:Int)=true) ⟨rfl,rfl,rfl⟩ ?_⟩
 rintro k J t w7 hk ⟨ht,uG,htx⟩ hJ
 obtain rfl:t=(k:Int):=ht
 obtain rfl:w7=w6:=uG
 have hpu:Pu w w7:=(((al.trans aj).trans am).trans bw).trans bx
 refine Br.of (λd1=>?_) (λd1=>?_)
 ·have ak:k<s.data.toList.length:=by have:=zQm d1;omega
  obtain⟨b,hb⟩:=zXe ak
  obtain⟨a,ha,hi,hcell⟩:=hl.u8 hb
  have hbl:=b.toNat_lt
  obtain⟨n,hn1,fh⟩:=hat b.toNat (by omega)
  refine⟨a,ha,by omega,by omega,_,by simpa using hcell,by omega,by omega,n,?_,?_⟩
  ·rw[zQc,zQq dx,Nat.zero_add,zQI,Nat.mul_one];exact hn1
  rw[fh,on_sg hq]
  refine Br.of (λd2=>⟨?_,hpu⟩) (λd2=>?_)
  ·have d2:onB b (q:Int)=false:=by simpa using d2
   have:zXG s.data.toList (q:Int)=false:=by
    unfold zXG;rw[List.all_eq_false];exact⟨b,List.mem_of_getElem? hb,by rw[d2];simp⟩
   rw[e2,this,if_neg fC,hpg];rfl
  ·have d2:onB b (q:Int)=true:=by simpa using d2
   rw[zQd (by omega) (by omega)]
   exact hJ _ _ ak ⟨by omega,rfl,by unfold zXG at *;rw[zZY _ hb,htx,d2];rfl⟩
 ·have ak:k=s.data.toList.length:=by have:=zQh d1;omega
  rw[ak,List.take_length]at htx
  exact⟨by rw[e2,htx,if_neg fC,hpg];rfl,hpu⟩
theorem yYS(s:ByteArray)(hs:s.size<=2048){p:Int}(hpg:zXm p=true)(w:World):Calls prog 110 #[.string s,.int .i64 p] w λe w'=>e=.returned (.bool (zXG s.data.toList p))/\Pu w w':=by
 refine yZt _ _ w _ ((yQ7 s (by omega) p w).mono ?_)
 rintro e w2 ⟨rfl,hp⟩
 have e1:(decide (s.size<=2048) && zXm p && zXG s.data.toList p)=zXG s.data.toList p:=by rw[hpg,decide_eq_true hs];rfl
 refine⟨_,_,rfl,?_⟩
 rw[e1,if_neg (by omega),hpg]
 exact Br.of (λd=>⟨by rw[d];rfl,hp⟩) (λd=>⟨by rw[d],hp⟩)
theorem on_c(b:UInt8)(p:Int)(w:World):Calls prog 149 #[.int .u8 ((b.toNat:Nat):Int),.int .i64 p] w λe w'=>e=.returned (.bool (onB b p))/\Pu w w':=by
 have hu:=b.toNat_lt
 refine yJh _ _ w _ (Br.of (λd=>⟨?_,Pu.refl w⟩) (λd=>Br.of (λd1=>⟨?_,Pu.refl w⟩) (λd1=>Br.of (λd2=>⟨?_,Pu.refl w⟩) (λd2=>Br.of (λd3=>⟨?_,Pu.refl w⟩) (λd3=>⟨?_,Pu.refl w⟩)))))
 ·rw[onB,if_pos (zQA d)];congr 2;exact zZy (by omega)
 ·rw[onB,if_neg (zQo d),if_pos (zQA d1)]
 ·have:=zQm d2
  rw[onB,if_neg (zQo d),if_neg (zQo d1),decide_eq_true (show b.toNat<176 by omega)];rfl
 ·have:=zQh d2;have:=zQm d3
  rw[onB,if_neg (zQo d),if_neg (zQo d1),decide_eq_false (show ¬b.toNat<176 by omega),decide_eq_true (show 224<=b.toNat by omega),Bool.false_or,Bool.true_and];congr 2;exact zZy (by omega)
 ·have:=zQh d2;have:=zQh d3
  rw[onB,if_neg (zQo d),if_neg (zQo d1),decide_eq_false (show ¬b.toNat<176 by omega),decide_eq_false (show ¬224<=b.toNat by omega)];rfl
theorem zVM(s:ByteArray)(hs:s.size<=140737488355328)(p:Int)(w:World):Calls prog 100 #[.string s,.int .i64 p] w λe w'=>e=.returned (.bool (zXG s.data.toList p))/\Pu w w':=by
 refine yJx _ _ w _ ?_
 refine zQ1 s.size (λk t w'=>t=(k:Int)/\Pu w w'/\zXG (s.data.toList.take k) p=true) ⟨rfl,Pu.refl _,rfl⟩ ?_
 rintro k J t w2 hk ⟨ht,hp,htx⟩ hJ
 obtain rfl:t=(k:Int):=ht
 refine Br.of (λd=>?_) (λd=>?_)
 ·have ak:k<s.size:=by have:=zQm d;omega
  obtain⟨b,ay,ag⟩:=zWW ak
  refine⟨b,by omega,by rw[zQI];exact ay,(on_c b p w2).mono ?_⟩
  rintro e w3 ⟨rfl,am⟩
  refine⟨_,rfl,Br.of (λd1=>⟨?_,hp.trans am⟩) (λd1=>?_)⟩
  ·have d1:onB b p=false:=by simpa using d1
   have:zXG s.data.toList p=false:=by
    unfold zXG;rw[List.all_eq_false];exact⟨b,List.mem_of_getElem? ag,by rw[d1];simp⟩
   rw[this]
  ·have d1:onB b p=true:=by simpa using d1
   rw[zQd (by omega) (by omega)]
   exact hJ _ _ ak ⟨by omega,hp.trans am,by unfold zXG at *;rw[zZY _ ag,htx,d1];rfl⟩
 ·have ak:k=s.data.toList.length:=by have:=zQh d;simp;omega
  rw[ak,List.take_length]at htx
  exact⟨by rw[htx],hp⟩
end Go.Proofs.YtcihcbfcgjepfaaGreatDoor
/- Table: what a value becomes in a field. No condition. -/
namespace Go.Proofs.YtcihcbfcgjepfaaGreatDoor
open Go.Sh Go.RowKit Tryz
theorem yKN(ts:Array TypeId)(r:TypeId)(k:IntKind)(a b:Int)(w:World):(Builtin.min_ ts r #[.int k a,.int k b]).run prog w=.ok (.int k (min a b)) w:=by
 rw[run_min_int2];congr 2;omega
theorem zKx{v:Val}(h:zXn v=0):v.s.size<=2048/\okN v.kind v.n=true/\(v.kind=4∨v.s.size=0):=by
 rw[zZb]at h
 by_cases h1:2048<v.s.size
 ·rw[if_pos h1]at h;omega
 ·rw[if_neg h1]at h
  cases h2:zXR v
  ·rw[h2]at h;simp at h
  ·unfold zXR at h2;simp at h2;exact⟨by omega,h2.1,h2.2.imp id λe=>by rw[e];rfl⟩
def strL(n w:Int):List UInt8:=if w<(zJV n).length then List.replicate w.toNat 42 else List.replicate (w.toNat - (zJV n).length) 32 ++ zJV n
theorem str_c{n w:Int}(h1:-1000000000000000<=n/\n<=1000000000000000)(h2:1<=w/\w<=254)(W:World):Calls prog 111 #[.int .i64 n,.int .i64 w] W λe W'=>e=.returned (.tuple #[.string (bs (strL n w)),.int .i64 0])/\Pu W W':=by
 refine yZ3 _ _ W _ ((yWK n W).mono ?_)
 rintro e W1 ⟨rfl,al⟩
 refine⟨_,rfl,?_⟩
 rw[decide_eq_true h1.1,decide_eq_true h1.2]
 refine Br.f rfl (Br.of (λd=>absurd (zQm d) (by omega)) (λ_=>Br.of (λd=>absurd (zQm d) (by omega)) (λ_=>(dec_c (by omega) (by omega) W1).mono ?_)))
 rintro e W2 ⟨rfl,aj⟩
 have es:=zXI (zJV n)
 refine⟨_,rfl,Br.of (λd=>?_) (λd=>?_)⟩
 ·have d:=zQm d
  have e1:w=((w.toNat:Nat):Int):=by omega
  rw[show(Value.int .i64 w)=.int .i64 ((w.toNat:Nat):Int)by rw[←e1]]
  refine(yXK 42 w.toNat (by omega) W2).mono ?_
  rintro e W3 ⟨rfl,am⟩
  exact⟨_,rfl,by unfold strL;rw[if_pos (by omega)],(al.trans aj).trans am⟩
 ·have d:=zQh d
  rw[yWS,zQd (by omega) (by omega)]
  have e1:w - (((bs (zJV n)).size:Nat):Int)=((w.toNat - (zJV n).length:Nat):Int):=by omega
  rw[e1]
  refine(yXK 32 _ (by omega) W2).mono ?_
  rintro e W3 ⟨rfl,am⟩
  refine⟨_,rfl,?_,?_,(al.trans aj).trans am⟩
  ·rw[zXI,zXI];simp only[List.length_replicate];omega
  ·rw[zZA];unfold strL;rw[if_neg (by omega)]
theorem xQe(s:ByteArray)(b:UInt8)(w:World):Calls prog 112 #[.string s,.string ⟨#[b]⟩] w λe w'=>e=.returned (.bool (decide (s.data.toList.head?=some b)))/\Pu w w':=
 (Any.strings_HasPrefix Tryz.lays99 s ⟨#[b]⟩ w).mono λe w' ⟨h1,h2⟩=>⟨by
  rw[h1];congr 2
  show Lib.hasPrefix s.data.toList [b]=_
  unfold Lib.hasPrefix
  cases s.data.toList with
  | nil=>rfl
  | cons a l=>
   rw[List.isPrefixOf_cons_cons,List.isPrefixOf_nil_left,Bool.and_true]
   by_cases h:b=a
   ·simp[h]
   ·simp[h,Ne.symm h],h2 ▸ Pu.refl _⟩
theorem yKZ(n:Int):∃b l,zJV n=b :: l/\b ≠ 42:=by
 by_cases h:n<0
 ·exact⟨45,_,zWm h,by decide⟩
 ·have hn:zJV n=zJb n.natAbs:=by unfold zJV;rw[if_neg h]
  cases hl:zJb n.natAbs with
  | nil=>have:=yX8 n.natAbs;rw[hl]at this;simp at this
  | cons b l=>
   refine⟨b,l,by rw[hn,hl],λe=>?_⟩
   have:=zVo n.natAbs b (by rw[hl];simp)
   rw[e]at this;simp at this
theorem yV0{n w:Int}(h:1<=w):decide ((strL n w).head?=some 42)=decide (w<(zJV n).length):=by
 obtain⟨b,l,hd,hb⟩:=yKZ n
 unfold strL
 by_cases h1:w<(zJV n).length
 ·rw[if_pos h1,decide_eq_true h1]
  obtain⟨k,hk⟩:∃k,w.toNat=k+1:=⟨w.toNat - 1,by omega⟩
  rw[hk,List.replicate_succ];simp
 ·rw[if_neg h1,decide_eq_false h1]
  cases hm:w.toNat - (zJV n).length with
  | zero=>rw[hd];simp[hb]
  | succ m=>simp[List.replicate_succ]
theorem retV {w:World} {r:Nat} {c:Array Value} (v:Val) (k:Int) {R:Rt} (hb:w.heap[r]?=some (.cells c 28)) (hc:c.size=3) (hR:∀w',Fr (·=r) w w'->R (.returned (.tuple #[zZh v,.int .i64 k])) w') :
  stA prog 28 (⟨r,0,none⟩:Addr) #[.int .i64 v.kind,.int .i64 v.n,.string v.s] w λw'=>∃n0:Int,w'.cell? ((⟨r,0,none⟩:Addr).add 0)=some (.int .i64 n0)/\∃n1:Int,w'.cell? ((⟨r,0,none⟩:Addr).add 1)=some (.int .i64 n1)/\
   ∃s2:ByteArray,w'.cell? ((⟨r,0,none⟩:Addr).add 2)=some (.string s2)/\R (.returned (.tuple #[.agg #[.int .i64 n0,.int .i64 n1,.string s2],.int .i64 k])) w':=
 zQj hb s25.symm (by rw[hc];rfl) rfl λw' hb' hf _=>⟨_,cl hb' 0,_,cl hb' 1,_,cl hb' 2,hR w' hf⟩
theorem zZI {f:Fld} {p:Int} {v:Val} (h:(zQ5 f && zXm p)=false):zZM f p v=(noV,1):=by unfold zZM;rw[h];rfl
theorem zJx {f:Fld} {p:Int} {v:Val} (h:(zQ5 f && zXm p)=true) (h2:zXn v ≠ 0):zZM f p v=(noV,zXn v):=by unfold zZM;rw[h,if_pos rfl,if_pos h2]
theorem zZV {f:Fld} {p:Int} {v:Val} (h:(zQ5 f && zXm p)=true) (h2:zXn v=0):zZM f p v=zQO f p v:=by unfold zZM;rw[h,if_pos rfl,if_neg (by omega)]
theorem zWq{f:Fld}(h:zQ5 f=true)(hk:f.kind=4):1<=f.width/\f.width<=254:=by
 unfold zQ5 zWi at h;rw[hk]at h;simp at h;exact h.2
theorem xJt{f:Fld}(h:zQ5 f=true)(hk:f.kind=2):1<=f.width/\f.width<=15:=by
 unfold zQ5 zWi at h;rw[hk]at h;simp at h;exact h.2
theorem yX2(l:List UInt8)(w:Int)(n:Nat)(hn:l.length=n)(hw:0<=w):l.take (min (n:Int) w).toNat=l.take w.toNat:=by
 by_cases h:(n:Int)<=w
 ·rw[show(min (n:Int) w).toNat=n by omega,List.take_of_length_le (by omega),List.take_of_length_le (by omega)]
 ·rw[show min (n:Int) w=w by omega]
theorem zYs(l:List UInt8):(zZf l).length<=l.length:=by
 unfold zZf
 have h:=List.IsSuffix.length_le (List.dropWhile_suffix (· == (32:UInt8)) (l:=l.reverse))
 simpa using h
theorem fit_c(f:Fld)(p:Int)(v:Val)(hs:f.name.size<=140737488355328)(w:World):Calls prog 52 #[yXu f,.int .i64 p,zZh v] w λe w'=>
  e=.returned (.tuple #[zZh (zZM f p v).1,.int .i64 (zZM f p v).2])/\Pu w w':=by
 refine yVR _ _ _ _ _ _ _ _ w _ ?_
 refine alB λw1 al ay=>alB λw2 aj ag=>alB λw3 am aH=>?_
 have z1:w1.heap.size<=w2.heap.size:=aj.size
 have z0:w.heap.size<=w1.heap.size:=al.size
 have l1:w.heap.size<w1.heap.size:=zQy ay
 have l2:w1.heap.size<w2.heap.size:=zQy ag
 have aF:Pu w w3:=(al.trans aj).trans am
 -- a value and a code are handed back
 have out:∀{wz:World} (v':Val) (k:Int) {c:Array Value},Pu w wz->wz.heap[w2.heap.size]?=some (.cells c 28)->c.size=3->zZM f p v=(v',k)->
   stA prog 28 (⟨w2.heap.size,0,none⟩:Addr) #[.int .i64 v'.kind,.int .i64 v'.n,.string v'.s] wz λw'=>∃n0:Int,w'.cell? ((⟨w2.heap.size,0,none⟩:Addr).add 0)=some (.int .i64 n0)/\∃n1:Int,w'.cell? ((⟨w2.heap.size,0,none⟩:Addr).add 1)=some (.int .i64 n1)/\
    ∃s2:ByteArray,w'.cell? ((⟨w2.heap.size,0,none⟩:Addr).add 2)=some (.string s2)/\(Ending.returned (.tuple #[.agg #[.int .i64 n0,.int .i64 n1,.string s2],.int .i64 k])=.returned (.tuple #[zZh (zZM f p v).1,.int .i64 (zZM f p v).2])/\Pu w w'):=λ{wz} v' k {c} h1 h2 h3 h4=>
  retV (R:=λe w'=>e=.returned (.tuple #[zZh (zZM f p v).1,.int .i64 (zZM f p v).2])/\Pu w w') v' k h2 h3 λw' hf=>⟨by rw[h4],h1.andNew hf λi hi=>by have hi:i=w2.heap.size:=hi;omega⟩
 have b1:∀{wz},Pu w3 wz->wz.heap[w.heap.size]?=some (.cells #[.string f.name,.int .i64 f.kind,.int .i64 f.width,.bool f.null] 38):=λh=>h.blk (am.blk (aj.blk ay))
 have b2:∀{wz},Pu w3 wz->wz.heap[w1.heap.size]?=some (.cells #[.int .i64 v.kind,.int .i64 v.n,.string v.s] 28):=λh=>h.blk (am.blk ag)
 have b3:∀{wz},Pu w3 wz->wz.heap[w2.heap.size]?=some (.cells #[.int .i64 0,.int .i64 0,.string ⟨#[]⟩] 28):=λh=>h.blk aH
 have q0:=b1 (Pu.refl w3)
 refine⟨_,cl q0 0,_,cl q0 1,_,cl q0 2,_,cl q0 3,(yQe f hs w3).mono ?_⟩
 rintro e w4 ⟨rfl,ar⟩
 refine⟨_,rfl,Br.of (λd=>out noV 1 (aF.trans ar) (b3 ar) rfl (zZI (by simp at d;simp[d]))) (λd=>(yXM p w4).mono ?_)⟩
 have hfB:zQ5 f=true:=by simpa using d
 rintro e w5 ⟨rfl,aB⟩
 have bw:=ar.trans aB
 refine⟨_,rfl,Br.of (λd=>out noV 1 (aF.trans bw) (b3 bw) rfl (zZI (by simp at d;simp[d]))) (λd=>?_)⟩
 have hpB:zXm p=true:=by simpa using d
 have hB:(zQ5 f && zXm p)=true:=by rw[hfB,hpB];rfl
 refine⟨_,cl (b2 bw) 0,_,cl (b2 bw) 1,_,cl (b2 bw) 2,(yKE v w5).mono ?_⟩
 rintro e w6 ⟨rfl,bx⟩
 have bm:=bw.trans bx
 have pp:=aF.trans bm
 refine⟨_,rfl,Br.of (λd=>out noV (zXn v) pp (b3 bm) rfl (zJx hB (zQ4 d))) (λd=>?_)⟩
 have hv:=zQu d
 obtain⟨hvs,hvn,hv4⟩:=zKx hv
 have hF:=zZV (f:=f) (p:=p) hB hv
 refine⟨_,cl0 (b2 bm),Br.of (λd0=>⟨_,cl (b1 bm) 3,Br.of (λd1=>out noV 7 pp (b3 bm) rfl ?_) (λd1=>⟨_,cl (b2 bm) 0,_,cl (b2 bm) 1,_,cl (b2 bm) 2,out v 0 pp (b3 bm) rfl ?_⟩)⟩) (λd0=>?_)⟩
 ·rw[hF];unfold zQO;rw[if_pos (zQA d0),show f.null=false by simpa using d1];rfl
 ·rw[hF];unfold zQO;rw[if_pos (zQA d0),show f.null=true by simpa using d1];rfl
 have d0:=zQo d0
 refine zQf λw7 bU hh7=>⟨λu=>Pu w7 u,Pu.refl _,v.kind,λu hu=>cl0 (b2 ((bm.trans bU).trans hu)),f.name,λu hu=>cl (b1 ((bm.trans bU).trans hu)) 0,f.kind,λu hu=>cl (b1 ((bm.trans bU).trans hu)) 1,f.width,λu hu=>cl (b1 ((bm.trans bU).trans hu)) 2,f.null,λu hu=>cl (b1 ((bm.trans bU).trans hu)) 3,(yKw f w7).mono ?_⟩
 rintro e w8 ⟨rfl,aV⟩
 have gG:=(bm.trans bU).trans aV
 have pZ:=aF.trans gG
 refine⟨_,_,_,rfl,aV,Br.of (λd1=>out noV 6 pZ (b3 gG) rfl ?_) (λd1=>⟨_,cl (b1 gG) 1,?_⟩)⟩
 ·rw[hF];unfold zQO;rw[if_neg d0,if_pos (zQ4 d1)]
 have d1:=zQu d1
 have sf:zZM f p v=if f.kind=4 then(if zXG (zZf (v.s.data.toList.take f.width.toNat)) p then(⟨4,0,bs (zZf (v.s.data.toList.take f.width.toNat))⟩,0)else(noV,10))else if zQT f p v then(v,0)else(noV,10):=by
  rw[hF];unfold zQO;rw[if_neg d0,if_neg (by rw[d1];simp)]
 have uI:¬zXn v ≠ 0:=by omega
 -- what a value is that stays
 have stay:∀{wz:World},Pu w3 wz->zZM f p v=(v,0)->∃n0:Int,wz.cell? ((⟨w1.heap.size,0,none⟩:Addr).add 0)=some (.int .i64 n0)/\∃n1:Int,wz.cell? ((⟨w1.heap.size,0,none⟩:Addr).add 1)=some (.int .i64 n1)/\∃s2:ByteArray,wz.cell? ((⟨w1.heap.size,0,none⟩:Addr).add 2)=some (.string s2)/\
   stA prog 28 (⟨w2.heap.size,0,none⟩:Addr) #[.int .i64 n0,.int .i64 n1,.string s2] wz λw'=>∃n0:Int,w'.cell? ((⟨w2.heap.size,0,none⟩:Addr).add 0)=some (.int .i64 n0)/\∃n1:Int,w'.cell? ((⟨w2.heap.size,0,none⟩:Addr).add 1)=some (.int .i64 n1)/\
    ∃s2:ByteArray,w'.cell? ((⟨w2.heap.size,0,none⟩:Addr).add 2)=some (.string s2)/\(Ending.returned (.tuple #[.agg #[.int .i64 n0,.int .i64 n1,.string s2],.int .i64 0])=.returned (.tuple #[zZh (zZM f p v).1,.int .i64 (zZM f p v).2])/\Pu w w'):=λ{wz} h h2=>
  ⟨_,cl (b2 h) 0,_,cl (b2 h) 1,_,cl (b2 h) 2,out v 0 (aF.trans h) (b3 h) rfl h2⟩
 refine Br.of (λd2=>?_) (λd2=>Br.of (λd3=>?_) (λd3=>Br.of (λd4=>?_) (λd4=>?_)))
 ·have d2:=zQA d2
  obtain⟨wl,wh⟩:=zWq hfB d2
  rw[if_pos d2]at sf
  refine⟨_,cl (b2 gG) 2,_,cl (b2 gG) 2,_,cl (b1 gG) 2,_,w8,yKN _ _ _ _ _ _,by omega,by omega,by omega,(yQA _ (by have:=zXt v.s 0 (min (v.s.size:Int) f.width).toNat;have:=zZc (v.s.extract 0 (min (v.s.size:Int) f.width).toNat);simp at *;omega) w8).mono ?_⟩
  rintro e w9 ⟨rfl,bR⟩
  have et:(v.s.extract 0 (min (v.s.size:Int) f.width).toNat).data.toList=v.s.data.toList.take f.width.toNat:=by
   rw[zXt,List.drop_zero];exact yX2 _ _ _ (by simp) (by omega)
  rw[et]
  have uJ:=gG.trans bR
  have hkind:v.kind=4:=by rw[d1];unfold zQ9;rw[if_neg (by omega)];exact d2
  have vA:v.n=0:=by rw[hkind]at hvn;simpa[okN] using hvn
  have hbl:(bs (zZf (v.s.data.toList.take f.width.toNat))).size<=2048:=by
   rw[zXI];have:=zYs (v.s.data.toList.take f.width.toNat);have:=List.length_take_le f.width.toNat v.s.data.toList;have:=List.length_take_le' f.width.toNat v.s.data.toList;rw[zZc]at this;omega
  generalize hg:zZf (v.s.data.toList.take f.width.toNat)=B at *
  refine⟨_,rfl,?_⟩
  rw[zQn,zQc,Nat.zero_add]
  refine zQt (b2 uJ) (show 2<3 by omega) λau v6 qa=>?_
  have dy:Fr (·=w1.heap.size) w9 au:=by rw[v6];exact Fr.cell w9 _ 2 _
  have qW:au.heap[w1.heap.size]?=some (.cells #[.int .i64 v.kind,.int .i64 v.n,.string (bs B)] 28):=qa
  have hpu10:Pu w au:=(aF.trans uJ).andNew dy λi hi=>by have hi:i=w1.heap.size:=hi;omega
  have hb310:=dy.blk (b3 uJ) (show ¬w2.heap.size=w1.heap.size by omega)
  refine⟨_,cl qW 2,(yYS _ hbl hpB au).mono ?_⟩
  rintro e av ⟨rfl,cY⟩
  rw[zJw]
  refine⟨_,rfl,Br.of (λd3=>out noV 10 (hpu10.trans cY) (cY.blk hb310) rfl ?_) (λd3=>⟨_,cl (cY.blk qW) 0,_,cl (cY.blk qW) 1,_,cl (cY.blk qW) 2,?_⟩)⟩
  ·rw[sf,show zXG B p=false by simpa using d3];rfl
  ·rw[hkind,vA]
   exact out ⟨4,0,bs B⟩ 0 (hpu10.trans cY) (cY.blk hb310) rfl (by rw[sf,show zXG B p=true by simpa using d3];rfl)
 ·have d2:=zQo d2
  have d3:=zQA d3
  obtain⟨wl,wh⟩:=xJt hfB d3
  have hkind:v.kind=2:=by rw[d1];unfold zQ9;rw[if_neg (by omega)];exact d3
  have hn:-1000000000000000<=v.n/\v.n<=1000000000000000:=by rw[hkind]at hvn;simpa[okN] using hvn
  have hfit:zQT f p v=decide (((zJV v.n).length:Int)<=f.width):=by
   unfold zQT;rw[if_neg uI,if_neg d0,if_neg (by omega),if_neg (by rw[hkind,d3];simp),if_pos d3]
  rw[if_neg d2,hfit]at sf
  refine⟨_,cl (b2 gG) 1,_,cl (b1 gG) 2,(str_c hn ⟨wl,by omega⟩ w8).mono ?_⟩
  rintro e w9 ⟨rfl,bR⟩
  have uJ:=gG.trans bR
  refine⟨_,_,rfl,Br.of (λd4=>absurd rfl (zQ4 d4)) (λ_=>(xQe _ 42 w9).mono ?_)⟩
  rintro e au ⟨rfl,cZ⟩
  have jL:=uJ.trans cZ
  refine⟨_,rfl,?_⟩
  rw[zJw,yV0 wl]
  refine Br.of (λd4=>out noV 10 (aF.trans jL) (b3 jL) rfl ?_) (λd4=>stay jL ?_)
  ·rw[sf,decide_eq_false (by have:=zQm d4;omega)];rfl
  ·rw[sf,decide_eq_true (by have:=zQh d4;omega)];rfl
 ·have d2:=zQo d2
  have d4:=zQA d4
  have hkind:v.kind=2:=by rw[d1];unfold zQ9;rw[if_pos d4]
  have hfit:zQT f p v=zVb v.n:=by
   unfold zQT;rw[if_neg uI,if_neg d0,if_pos d4,hkind];rfl
  rw[if_neg d2,hfit]at sf
  refine⟨_,cl (b2 gG) 1,Br.of (λd5=>out noV 10 pZ (b3 gG) rfl ?_) (λd5=>⟨_,cl (b2 gG) 1,Br.of (λd6=>out noV 10 pZ (b3 gG) rfl ?_) (λd6=>stay gG ?_)⟩)⟩
  ·rw[sf,show zVb v.n=false by unfold zVb;rw[decide_eq_false (by have:=zQm d5;omega)];rfl];rfl
  ·rw[sf,show zVb v.n=false by unfold zVb;rw[decide_eq_false (show ¬v.n<=99999999 by have:=zQm d6;omega)];simp];rfl
  ·rw[sf,show zVb v.n=true by unfold zVb;rw[decide_eq_true (show 0<=v.n by have:=zQh d5;omega),decide_eq_true (show v.n<=99999999 by have:=zQh d6;omega)];rfl];rfl
 ·have d2:=zQo d2
  have d3:=zQo d3
  have d4:=zQo d4
  have hfit:zQT f p v=true:=by
   unfold zQT;rw[if_neg uI,if_neg d0,if_neg d4,if_neg (by rw[d1];unfold zQ9;rw[if_neg d4];simp),if_neg d3,if_neg d2]
  rw[if_neg d2,hfit]at sf
  exact stay gG sf
end Go.Proofs.YtcihcbfcgjepfaaGreatDoor
