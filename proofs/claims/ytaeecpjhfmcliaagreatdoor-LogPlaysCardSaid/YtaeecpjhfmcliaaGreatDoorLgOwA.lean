import Derived.Test.YtaeecpjhfmcliaaGreatDoorShNine
import Derived.Test.YtaeecpjhfmcliaaGreatDoorShSeventeen
import Derived.Test.YtaeecpjhfmcliaaGreatDoorLgPrA
import Derived.Test.YtaeecpjhfmcliaaGreatDoorShTwentyTwo
import Derived.Test.YtaeecpjhfmcliaaGreatDoorLtShelf
import Derived.Test.YtaeecpjhfmcliaaGreatDoorShThirteen
/- Table: data, and what is computed on it, in plain words. No condition. -/
set_option linter.unusedVariables false
set_option linter.unusedSimpArgs false
namespace Go.Proofs.YtaeecpjhfmcliaaGreatDoor
open Go.Sh Go.RowKit Tryz
theorem zXR {α:Type} {l:List α} {k:Nat} {x:α} (h:l[k]?=some x):l.drop k=x :: l.drop (k+1):=by
 obtain⟨h1,h2⟩:=List.getElem?_eq_some_iff.1 h
 rw[List.drop_eq_getElem_cons h1,h2]
theorem zQC {α:Type} {l:List α} {k:Nat} {x:α} (h:l[k]?=some x):l.take (k+1)=l.take k ++ [x]:=by
 rw[List.take_add_one,h];rfl
theorem zQK{α:Type}{l:List α}{k:Nat}(h:k<l.length):∃x,l[k]?=some x:=⟨_,List.getElem?_eq_getElem h⟩
theorem yVM(a:Addr):a.add 0=a:=by simp[Addr.add]
theorem zX5(s t:ByteArray):(s.toList == t.toList)=decide (s=t):=by rw[←beq_toListBytes,zZ3]
theorem zQU{s t:ByteArray}(h:s.data.toList=t.data.toList):s=t:=by
 obtain⟨⟨a⟩⟩:=s;obtain⟨⟨b⟩⟩:=t;simp at h;rw[h]
theorem zQ2(s:ByteArray):s.data.toList.length=s.size:=by simp
abbrev bs(l:List UInt8):ByteArray:=⟨l.toArray⟩
theorem zQN(l:List UInt8):(bs l).data.toList=l:=by simp[bs]
theorem yJ7(s:ByteArray):bs s.data.toList=s:=by obtain⟨⟨a⟩⟩:=s;rfl
theorem zQ8(l:List UInt8):(bs l).size=l.length:=by simp[bs,ByteArray.size]
structure Fld where
 name:ByteArray
 kind:Int
 width:Int
 null:Bool
deriving DecidableEq, Inhabited
structure Val where
 kind:Int
 n:Int
 s:ByteArray
deriving DecidableEq, Inhabited
structure Rec where
 gone:Bool
 v:List Val
deriving DecidableEq, Inhabited
structure Tbl where
 page:Int
 fields:List Fld
 recs:List Rec
deriving DecidableEq, Inhabited
def zJe(n:Int):Prop:=-9223372036854775808<=n/\n<=9223372036854775807
instance:Enc Bool where
 sz:=1
 rd _ vs b:=vs=[.bool b]
 len h:=by rw[h];rfl
 pu _ h:=h
abbrev zVV(f:Fld):List Value:=[.string f.name,.int .i64 f.kind,.int .i64 f.width,.bool f.null]
abbrev zVt(v:Val):List Value:=[.int .i64 v.kind,.int .i64 v.n,.string v.s]
instance:Enc Fld where
 sz:=4
 rd _ vs f:=vs=zVV f/\zJe f.kind/\zJe f.width
 len h:=by rw[h.1];rfl
 pu _ h:=h
instance:Lim Fld:=⟨λf=>Lim.ok f.name⟩
instance:Enc Val where
 sz:=3
 rd _ vs v:=vs=zVt v/\zJe v.kind/\zJe v.n
 len h:=by rw[h.1];rfl
 pu _ h:=h
instance:Lim Val:=⟨λv=>Lim.ok v.s⟩
instance:Enc Rec where
 sz:=2
 rd w vs r:=∃s:SV,vs=[.bool r.gone,.slice s.a s.len s.cap]/\zX3 w s r.v
 len h:=by obtain⟨s,rfl,_⟩:=h;rfl
 pu hp h:=let ⟨s,h1,h2⟩:=h;⟨s,h1,h2.pu hp⟩
instance:Lim Rec:=⟨λr=>Lim.ok r.v⟩
structure zXi(w:World)(t:Tbl)(f r:SV):Prop where
 page:zJe t.page
 fields:zX3 w f t.fields
 recs:zX3 w r t.recs
theorem zXi.pu{w w':World}{t:Tbl}{f r:SV}(h:zXi w t f r)(hp:Pu w w'):zXi w' t f r:=⟨h.page,h.fields.pu hp,h.recs.pu hp⟩
instance:Enc Tbl where
 sz:=3
 rd w vs t:=∃f r:SV,vs=[.int .i64 t.page,.slice f.a f.len f.cap,.slice r.a r.len r.cap]/\zXi w t f r
 len h:=by obtain⟨f,r,rfl,_⟩:=h;rfl
 pu hp h:=let ⟨f,r,h1,h2⟩:=h;⟨f,r,h1,h2.pu hp⟩
instance:Lim Tbl:=⟨λt=>Lim.ok t.fields/\Lim.ok t.recs⟩
theorem zJi {w:World} {s:SV} {l:List Fld} (h:zX3 w s l) {i:Nat} {f:Fld} (hx:l[i]?=some f):∃a,s.a=some a/\i<s.len/\zJe f.kind/\zJe f.width/\
  w.cell? (a.add (i * 4))=some (.string f.name)/\w.cell? ((a.add (i * 4)).add 0)=some (.string f.name)/\w.cell? ((a.add (i * 4)).add 1)=some (.int .i64 f.kind)/\w.cell? ((a.add (i * 4)).add 2)=some (.int .i64 f.width)/\w.cell? ((a.add (i * 4)).add 3)=some (.bool f.null):=by
 obtain⟨a,ha,vs,⟨rfl,h1⟩,h2⟩:=h.get i f hx
 have hi:i<l.length:=(List.getElem?_eq_some_iff.1 hx).1
 have h2:zJt w (a.add (i * 4)) (zVV f):=h2
 exact⟨a,ha,by rw[h.len];exact hi,h1.1,h1.2,by rw[←yVM (a.add _)];exact h2 0 _ rfl,h2 0 _ rfl,h2 1 _ rfl,h2 2 _ rfl,h2 3 _ rfl⟩
theorem yVs {w:World} {s:SV} {l:List Val} (h:zX3 w s l) {i:Nat} {v:Val} (hx:l[i]?=some v):∃a,s.a=some a/\i<s.len/\zJe v.kind/\zJe v.n/\
  w.cell? ((a.add (i * 3)).add 0)=some (.int .i64 v.kind)/\w.cell? ((a.add (i * 3)).add 1)=some (.int .i64 v.n)/\w.cell? ((a.add (i * 3)).add 2)=some (.string v.s):=by
 obtain⟨a,ha,vs,⟨rfl,h1⟩,h2⟩:=h.get i v hx
 have hi:i<l.length:=(List.getElem?_eq_some_iff.1 hx).1
 have h2:zJt w (a.add (i * 3)) (zVt v):=h2
 exact⟨a,ha,by rw[h.len];exact hi,h1.1,h1.2,h2 0 _ rfl,h2 1 _ rfl,h2 2 _ rfl⟩
theorem zKn {w:World} {s:SV} {l:List Rec} (h:zX3 w s l) {i:Nat} {r:Rec} (hx:l[i]?=some r):∃a t,s.a=some a/\i<s.len/\zX3 w t r.v/\
  w.cell? ((a.add (i * 2)).add 0)=some (.bool r.gone)/\w.cell? ((a.add (i * 2)).add 1)=some (.slice t.a t.len t.cap):=by
 obtain⟨a,ha,vs,⟨t,rfl,h1⟩,h2⟩:=h.get i r hx
 have hi:i<l.length:=(List.getElem?_eq_some_iff.1 hx).1
 have h2:zJt w (a.add (i * 2)) [.bool r.gone,.slice t.a t.len t.cap]:=h2
 exact⟨a,t,ha,by rw[h.len];exact hi,h1,h2 0 _ rfl,h2 1 _ rfl⟩
def noV:Val:=⟨0,0,⟨#[]⟩⟩
def zWT(b:UInt8):Bool:=decide (65<=b.toNat) && decide (b.toNat<=90)
def zZk(b:UInt8):Bool:=decide (48<=b.toNat) && decide (b.toNat<=57)
def zZr(s:ByteArray):Bool:=decide (1<=s.size) && decide (s.size<=10) && s.data.toList.all (λb=>zWT b || zZk b || decide (b.toNat=95)) && (s.data.toList.take 1).all zWT
def zWM(k w:Int):Bool:=if k=1 then decide (w=1)else if k=2 then decide (1<=w) && decide (w<=15)else if k=3 then decide (w=8)else if k=4 then decide (1<=w) && decide (w<=254)else if k=5 then decide (w=8)else false
def zQo(f:Fld):Bool:=zZr f.name && zWM f.kind f.width
def zQV(p:Int):Bool:=decide (0<=p) && decide (p<=2)
def onB(b:UInt8)(p:Int):Bool:=if p=0 then decide (b.toNat<128)else if p=1 then true else decide (b.toNat<176) || (decide (224<=b.toNat) && decide (b.toNat<240))
def zXJ(l:List UInt8)(p:Int):Bool:=l.all λb=>onB b p
def zXo(l:List Fld):Nat:=((l.filter (·.null)).length+7) / 8
def zXG(l:List Fld):Int:=1+(zXo l:Int)+(l.map (·.width)).sum
def zQT(l:List Fld):Int:=if l=[]∨l.all zQo=false then 1 else if ¬(l.map (·.name)).Nodup then 5 else if 16<l.length∨2000<zXG l then 3 else 0
def okN(k n:Int):Bool:=if k=0 then decide (n=0)else if k=1 then decide (n=0) || decide (n=1)else if k=2 then decide (-1000000000000000<=n) && decide (n<=1000000000000000)else if k=3 then decide (0<=n) && decide (n<=3652059)else if k=4 then decide (n=0)else false
def zXh(v:Val):Int:=if 2048<v.s.size then 3 else if okN v.kind v.n && (decide (v.kind=4) || decide (v.s.size=0))then 0 else 1
def zZH(n:Nat):List UInt8:=if h:n<10 then [UInt8.ofNat (48+n)]else zZH (n / 10) ++ [UInt8.ofNat (48+n % 10)]
 termination_by n
 decreasing_by omega
def zJo(n:Int):List UInt8:=if n<0 then 45 :: zZH n.natAbs else zZH n.natAbs
def zZs(l:List UInt8):List UInt8:=(l.reverse.dropWhile (· == 32)).reverse
def zVK(n:Int):Bool:=decide (0<=n) && decide (n<=99999999)
def zQO(f:Fld)(p:Int)(v:Val):Bool:=
 if zXh v ≠ 0 then false else if v.kind=0 then f.null else if f.kind=5 then decide (v.kind=2) && zVK v.n else if v.kind ≠ f.kind then false
 else if f.kind=2 then decide (((zJo v.n).length:Int)<=f.width)else if f.kind=4 then decide ((v.s.size:Int)<=f.width) && decide (zZs v.s.data.toList=v.s.data.toList) && zXJ v.s.data.toList p else true
def zXk(f:Fld):Val:=if f.kind=5 then⟨2,0,⟨#[]⟩⟩else⟨f.kind,0,⟨#[]⟩⟩
def zQQ(f:Fld)(p:Int)(v:Val):Val × Int:=
 if v.kind=0 then(if f.null then(v,0)else(noV,7))else if v.kind ≠ (zXk f).kind then(noV,6)
 else if f.kind=4 then(if zXJ (zZs (v.s.data.toList.take f.width.toNat)) p then(⟨4,0,bs (zZs (v.s.data.toList.take f.width.toNat))⟩,0)else(noV,10))
 else if zQO f p v then(v,0)else(noV,10)
def zZO(f:Fld)(p:Int)(v:Val):Val × Int:=if zQo f && zQV p then(if zXh v ≠ 0 then(noV,zXh v)else zQQ f p v)else(noV,1)
def zQ1(l:List Fld)(p:Int)(r:Rec):Int:=if r.v.length ≠ l.length then 10 else if (l.zip r.v).all (λx=>zQO x.1 p x.2)then 0 else 1
def zXu(l:List Fld)(p:Int):List Rec->Int
 | []=>0
 | r :: rs=>if zQ1 l p r ≠ 0 then zQ1 l p r else zXu l p rs
def zQh(t:Tbl):Int:=if zQV t.page then(if zQT t.fields ≠ 0 then zQT t.fields else if 300<t.recs.length then 3 else zXu t.fields t.page t.recs)else 1
end Go.Proofs.YtaeecpjhfmcliaaGreatDoor
/- Table: values, names, fields, pages: which are right. No condition. -/
set_option maxRecDepth 100000
namespace Go.Proofs.YtaeecpjhfmcliaaGreatDoor
open Go.Sh Go.RowKit Tryz
theorem zXX(s:ByteArray):(s.toList == (⟨#[]⟩:ByteArray).toList)=decide (s.size=0):=by
 rw[←beq_toListBytes,zZ3]
 by_cases h:s.size=0
 ·have:s=⟨#[]⟩:=by
   obtain⟨⟨l⟩⟩:=s
   cases l with
   | nil=>rfl
   | cons a l=>simp[ByteArray.size]at h
  simp[this]
  rfl
 ·have:s ≠ ⟨#[]⟩:=λe=>h (by rw[e];rfl)
  simp[this,h]
theorem alB {w:World} {c:Array Value} {e:TypeId} {K:Nat->World->Prop} (h:∀w1,Pu w w1->w1.heap[w.heap.size]?=some (.cells c e)->K w.heap.size w1):alE (.cells c e) w K:=
 h _ (Pu.alloc w _) (zZi w _)
theorem cl {w:World} {r:Nat} {c:Array Value} {e:TypeId} {f:Nat × Nat} (h:w.heap[r]?=some (.cells c e f)) (o:Nat):w.cell? ((⟨r,0,none⟩:Addr).add o)=c[o]?:=by rw[zQs,zQE h,Nat.zero_add]
theorem cl0 {w:World} {r:Nat} {c:Array Value} {e:TypeId} {f:Nat × Nat} (h:w.heap[r]?=some (.cells c e f)):w.cell? (⟨r,0,none⟩:Addr)=c[0]?:=zQE h 0
theorem zQD {a b:Int} (h:(a == b)=true):a=b:=by simpa using h
theorem zQm {a b:Int} (h:(a == b)=false):a ≠ b:=by simpa using h
theorem zQw {a b:Int} (h:(a != b)=true):a ≠ b:=by simpa using h
theorem zQq {a b:Int} (h:(a != b)=false):a=b:=by simpa using h
theorem xXk(n:Int)(w:World):Calls prog 153 #[.int .i64 n] w λe w'=>e=.returned (.bool (decide (-1000000000000000<=n) && decide (n<=1000000000000000)))/\Pu w w':=by
 refine yWL _ w _ (Br.of (λd=>?_) (λd=>?_))
 ·exact⟨by rw[decide_eq_true (show -1000000000000000<=n from zQj d)];rfl,Pu.refl w⟩
 ·exact⟨by rw[decide_eq_false (show ¬ -1000000000000000<=n from zQd d)];rfl,Pu.refl w⟩
theorem xY1(n:Int)(w:World):Calls prog 167 #[.int .i64 n] w λe w'=>e=.returned (.bool (decide (-1000000000000000<=n) && decide (n<=1000000000000000)))/\Pu w w':=by
 refine yWj _ w _ (Br.of (λd=>?_) (λd=>?_))
 ·exact⟨by rw[decide_eq_true (show -1000000000000000<=n from zQj d)];rfl,Pu.refl w⟩
 ·exact⟨by rw[decide_eq_false (show ¬ -1000000000000000<=n from zQd d)];rfl,Pu.refl w⟩
theorem yJs(n:Int)(w:World):Calls prog 191 #[.int .i64 n] w λe w'=>e=.returned (.bool (decide (0<=n) && decide (n<=3652059)))/\Pu w w':=by
 refine yVa _ w _ (Br.of (λd=>?_) (λd=>?_))
 ·exact⟨by rw[decide_eq_true (show 0<=n from zQj d)];rfl,Pu.refl w⟩
 ·exact⟨by rw[decide_eq_false (show ¬0<=n from zQd d)];rfl,Pu.refl w⟩
def zZo(v:Val):Bool:=okN v.kind v.n && (decide (v.kind=4) || decide (v.s.size=0))
theorem xXt(v:Val)(w:World):Calls prog 147 #[.agg #[.int .i64 v.kind,.int .i64 v.n,.string v.s]] w λe w'=>e=.returned (.bool (zZo v))/\Pu w w':=by
 refine yVg _ _ _ w _ ?_
 refine alB λw1 hp hb=>?_
 have fin:(v.kind=4->v.n=0)->(v.kind ≠ 4->v.s.size=0)->yQ9 (λe w'=>e=.returned (.bool (zZo v))/\Pu w w') (some (⟨w.heap.size,0,none⟩:Addr)) v.kind [] w1:=λh4 hs=>by
  have e:zZo v=okN v.kind v.n:=by
   unfold zZo
   by_cases h:v.kind=4 <;> simp[h,hs]
  refine Br.of (λd=>?_) (λd=>Br.of (λd1=>?_) (λd1=>Br.of (λd2=>?_) (λd2=>Br.of (λd3=>?_) (λd3=>?_))))
  ·have d:=zQD d
   refine⟨_,cl hb 1,by rw[e,okN,if_pos d];rfl,hp⟩
  ·have d:=zQm d
   have d1:=zQD d1
   refine⟨_,cl hb 1,Br.of (λd2=>?_) (λd2=>⟨_,cl hb 1,?_,hp⟩)⟩
   ·have d2:=zQD d2
    refine⟨by rw[e,okN,if_neg d,if_pos d1,d2];rfl,hp⟩
   ·have d2:=zQm d2
    rw[e,okN,if_neg d,if_pos d1,decide_eq_false d2];rfl
  ·have d:=zQm d
   have d1:=zQm d1
   have d2:=zQD d2
   refine⟨_,cl hb 1,(xXk v.n w1).mono ?_⟩
   rintro e' w2 ⟨rfl,aq⟩
   exact⟨_,rfl,by rw[e,okN,if_neg d,if_neg d1,if_pos d2],hp.trans aq⟩
  ·have d:=zQm d
   have d1:=zQm d1
   have d2:=zQm d2
   have d3:=zQD d3
   refine⟨_,cl hb 1,(yJs v.n w1).mono ?_⟩
   rintro e' w2 ⟨rfl,aq⟩
   exact⟨_,rfl,by rw[e,okN,if_neg d,if_neg d1,if_neg d2,if_pos d3],hp.trans aq⟩
  ·have d:=zQm d
   have d1:=zQm d1
   have d2:=zQm d2
   have d3:=zQm d3
   refine⟨_,cl0 hb,?_,hp⟩
   rw[e,okN,if_neg d,if_neg d1,if_neg d2,if_neg d3]
   by_cases h:v.kind=4
   ·simp[h,h4 h]
   ·simp[h]
 have bad:zZo v=false->(Ending.returned (Value.bool false)=Ending.returned (Value.bool (zZo v))/\Pu w w1):=λh=>⟨by rw[h],hp⟩
 refine⟨_,cl0 hb,Br.of (λd=>⟨_,cl hb 2,?_⟩) (λd=>?_)⟩
 ·have d:=zQw d
  rw[zXX]
  refine Br.of (λd1=>?_) (λd1=>⟨_,cl0 hb,Br.of (λd2=>absurd (zQD d2) d) (λd2=>?_)⟩)
  ·exact bad (by simp at d1;simp[zZo,d,d1])
  ·exact⟨_,cl0 hb,fin (λh=>absurd h d) (λ_=>by simpa using d1)⟩
 ·have d:=zQq d
  refine⟨_,cl0 hb,Br.of (λd1=>⟨_,cl hb 1,?_⟩) (λd1=>absurd d (zQm d1))⟩
  refine Br.of (λd2=>?_) (λd2=>⟨_,cl0 hb,fin (λ_=>zQq d2) (λh=>absurd d h)⟩)
  exact bad (by have:=zQw d2;simp[zZo,okN,d,this])
theorem zZ1(v:Val):zXh v=if 2048<v.s.size then 3 else if zZo v then 0 else 1:=rfl
theorem xQ6(v:Val)(w:World):Calls prog 117 #[.agg #[.int .i64 v.kind,.int .i64 v.n,.string v.s]] w λe w'=>e=.returned (.int .i64 (zXh v))/\Pu w w':=by
 refine yWg _ _ _ w _ ?_
 refine alB λw1 hp hb=>⟨v.s,cl hb 2,Br.of (λd=>?_) (λd=>?_)⟩
 ·have:2048<v.s.size:=by have:=zQj d;omega
  exact⟨by rw[zZ1,if_pos this],hp⟩
 ·have hn:¬2048<v.s.size:=by have:=zQd d;omega
  refine⟨_,cl hb 0,_,cl hb 1,_,cl hb 2,(xXt v w1).mono ?_⟩
  rintro e w2 ⟨rfl,aq⟩
  refine⟨_,rfl,Br.of (λd1=>?_) (λd1=>?_)⟩
  ·have d1:zZo v=false:=by simpa using d1
   exact⟨by rw[zZ1,if_neg hn,d1];rfl,hp.trans aq⟩
  ·have d1:zZo v=true:=by simpa using d1
   exact⟨by rw[zZ1,if_neg hn,d1];rfl,hp.trans aq⟩
theorem yK2(v:Val)(w:World):Calls prog 132 #[.agg #[.int .i64 v.kind,.int .i64 v.n,.string v.s]] w λe w'=>e=.returned (.int .i64 (zXh v))/\Pu w w':=by
 refine yW7 _ _ _ w _ ?_
 refine alB λw1 hp hb=>⟨v.s,cl hb 2,Br.of (λd=>?_) (λd=>?_)⟩
 ·have:2048<v.s.size:=by have:=zQj d;omega
  exact⟨by rw[zZ1,if_pos this],hp⟩
 ·have hn:¬2048<v.s.size:=by have:=zQd d;omega
  have fin:∀{b:Bool} {w2:World},b=okN v.kind v.n->Pu w1 w2->zKR (λe w'=>e=.returned (.int .i64 (zXh v))/\Pu w w') (some (⟨w.heap.size,0,none⟩:Addr)) b [] w2:=λ{b w2} h aq=>by
   subst h
   have e1:zXh v=if zZo v then 0 else 1:=by rw[zZ1,if_neg hn]
   have aN:=aq.blk hb
   refine Br.of (λd1=>?_) (λd1=>⟨_,cl0 aN,Br.of (λd2=>⟨_,cl aN 2,?_⟩) (λd2=>?_)⟩)
   ·exact⟨by rw[e1,zZo,show okN v.kind v.n=false by simpa using d1];rfl,hp.trans aq⟩
   ·have d1:okN v.kind v.n=true:=by simpa using d1
    have d2:=zQw d2
    rw[zXX]
    refine Br.of (λd3=>?_) (λd3=>?_)
    ·exact⟨by simp at d3;rw[e1];simp[zZo,d1,d2,d3],hp.trans aq⟩
    ·exact⟨by simp at d3;rw[e1];simp[zZo,d1,d2,d3],hp.trans aq⟩
   ·have d1:okN v.kind v.n=true:=by simpa using d1
    exact⟨by rw[e1,zZo,d1,zQq d2];rfl,hp.trans aq⟩
  refine⟨_,cl0 hb,Br.of (λd0=>⟨_,cl hb 1,fin ?_ (Pu.refl _)⟩) (λd0=>Br.of (λd1=>⟨_,cl hb 1,Br.of (λd2=>fin ?_ (Pu.refl _)) (λd2=>⟨_,cl hb 1,fin ?_ (Pu.refl _)⟩)⟩) (λd1=>Br.of (λd2=>⟨_,cl hb 1,(xY1 v.n w1).mono ?_⟩)
   (λd2=>Br.of (λd3=>⟨_,cl hb 1,Br.of (λd4=>⟨_,cl hb 1,fin ?_ (Pu.refl _)⟩) (λd4=>fin ?_ (Pu.refl _))⟩) (λd3=>Br.of (λd4=>⟨_,cl hb 1,fin ?_ (Pu.refl _)⟩) (λd4=>fin ?_ (Pu.refl _))))))⟩
  ·rw[okN,if_pos (zQD d0)];rfl
  ·rw[okN,if_neg (zQm d0),if_pos (zQD d1),zQD d2];rfl
  ·rw[okN,if_neg (zQm d0),if_pos (zQD d1),decide_eq_false (zQm d2)];rfl
  ·rintro e' w2 ⟨rfl,aq⟩
   exact⟨_,rfl,fin (by rw[okN,if_neg (zQm d0),if_neg (zQm d1),if_pos (zQD d2)]) aq⟩
  ·rw[okN,if_neg (zQm d0),if_neg (zQm d1),if_neg (zQm d2),if_pos (zQD d3),decide_eq_true (show 0<=v.n from zQj d4)];rfl
  ·rw[okN,if_neg (zQm d0),if_neg (zQm d1),if_neg (zQm d2),if_pos (zQD d3),decide_eq_false (show ¬0<=v.n from zQd d4)];rfl
  ·rw[okN,if_neg (zQm d0),if_neg (zQm d1),if_neg (zQm d2),if_neg (zQm d3),if_pos (zQD d4)];rfl
  ·rw[okN,if_neg (zQm d0),if_neg (zQm d1),if_neg (zQm d2),if_neg (zQm d3),if_neg (zQm d4)]
end Go.Proofs.YtaeecpjhfmcliaaGreatDoor
/- Table: names, fields and pages: which are right. No condition. -/
namespace Go.Proofs.YtaeecpjhfmcliaaGreatDoor
open Go.Sh Go.RowKit Tryz
structure K5 where
 letter:Int
 least:Int
 most:Int
 wr:Nat
 rd:Nat
def zYQ(k:K5):Value:=.agg #[.int .u8 k.letter,.int .i64 k.least,.int .i64 k.most,.func (.func k.wr) #[] #[],.func (.func k.rd) #[] #[]]
abbrev yJv(n:Int):Value:=.int .i64 n
def zZd:List (Int × K5):=[(1,⟨76,1,1,180,181⟩),(2,⟨78,1,15,182,183⟩),(3,⟨68,8,8,184,185⟩),(4,⟨67,1,254,186,187⟩),(5,⟨77,8,8,188,189⟩)]
theorem xYt:prog.underlying 176=some (.map 3 174):=by kernel_rfl
theorem yV3:yK4 prog 3 yJv:=xJt (q:=.i64) (by kernel_rfl)
theorem z102(w:World):(zeroValue 174).run prog w=.ok (.agg #[.int .u8 0,.int .i64 0,.int .i64 0,.nilFunc,.nilFunc]) w:=Tryz.zeroValue174 w
theorem zVf(w:World):Calls prog 145 #[] w λe w'=>∃b,e=.returned (.map (some b))/\zXB w' yJv zYQ b zZd/\w.heap.size<=b/\Pu w w':=by
 refine yWz w _ ?_
 refine zY4 λw1 jT=>?_
 have hp:Pu w w1:=by rw[jT];exact Pu.alloc w _
 have hm:zXB w1 yJv zYQ w.heap.size ([]:List (Int × K5)):=by rw[jT];exact zXB.new w _ _
 obtain⟨w2,e2,h2,f2,_⟩:=hm.upd yV3 xYt 1 ⟨76,1,1,180,181⟩
 obtain⟨w3,e3,h3,f3,_⟩:=h2.upd yV3 xYt 2 ⟨78,1,15,182,183⟩
 obtain⟨w4,e4,h4,f4,_⟩:=h3.upd yV3 xYt 3 ⟨68,8,8,184,185⟩
 obtain⟨w5,e5,h5,f5,_⟩:=h4.upd yV3 xYt 4 ⟨67,1,254,186,187⟩
 obtain⟨w6,e6,h6,f6,_⟩:=h5.upd yV3 xYt 5 ⟨77,8,8,188,189⟩
 refine⟨w2,e2,w3,e3,w4,e4,w5,e5,w6,e6,w.heap.size,rfl,h6,Nat.le_refl _,?_⟩
 have n:∀i,i=w.heap.size->w.heap.size<=i:=λi h=>by omega
 exact((((hp.andNew f2 n).andNew f3 n).andNew f4 n).andNew f5 n).andNew f6 n
def zXb(k:Int):Option K5:=AL.get zZd k
theorem zW4{w:World}{b:Nat}(h:zXB w yJv zYQ b zZd)(k:Int)(ok:Bool):(Instr.lookup 176 (.map (some b)) (.int .i64 k) ok).run prog w =
  .ok (if ok then .tuple #[(zXb k).elim (.agg #[.int .u8 0,.int .i64 0,.int .i64 0,.nilFunc,.nilFunc]) zYQ,.bool (zXb k).isSome]else(zXb k).elim (.agg #[.int .u8 0,.int .i64 0,.int .i64 0,.nilFunc,.nilFunc]) zYQ) w:=
 h.look yV3 xYt (z102 w) k ok
theorem zJM(k:Int):(k=1/\zXb k=some ⟨76,1,1,180,181⟩)∨(k=2/\zXb k=some ⟨78,1,15,182,183⟩)∨(k=3/\zXb k=some ⟨68,8,8,184,185⟩)∨(k=4/\zXb k=some ⟨67,1,254,186,187⟩)∨(k=5/\zXb k=some ⟨77,8,8,188,189⟩)∨(k ≠ 1/\k ≠ 2/\k ≠ 3/\k ≠ 4/\k ≠ 5/\zXb k=none):=by
 by_cases h1:k=1
 ·subst h1;exact .inl ⟨rfl,rfl⟩
 by_cases h2:k=2
 ·subst h2;exact .inr (.inl ⟨rfl,rfl⟩)
 by_cases h3:k=3
 ·subst h3;exact .inr (.inr (.inl ⟨rfl,rfl⟩))
 by_cases h4:k=4
 ·subst h4;exact .inr (.inr (.inr (.inl ⟨rfl,rfl⟩)))
 by_cases h5:k=5
 ·subst h5;exact .inr (.inr (.inr (.inr (.inl ⟨rfl,rfl⟩))))
 ·refine .inr (.inr (.inr (.inr (.inr ⟨h1,h2,h3,h4,h5,?_⟩))))
  simp[zXb,zZd,AL.get,h1,h2,h3,h4,h5,Ne.symm h1,Ne.symm h2,Ne.symm h3,Ne.symm h4,Ne.symm h5]
def xYx:List UInt8:=[65,66,67,68,69,70,71,72,73,74,75,76,77,78,79,80,81,82,83,84,85,86,87,88,89,90,48,49,50,51,52,53,54,55,56,57,95]
theorem xVZ(b:UInt8):xYx.contains b=(zWT b || zZk b || decide (b.toNat=95)):=by
 have h:∀n:Nat,n<256->xYx.contains (UInt8.ofNat n)=(zWT (UInt8.ofNat n) || zZk (UInt8.ofNat n) || decide ((UInt8.ofNat n).toNat=95)):=by decide +kernel
 have:=h b.toNat b.toNat_lt
 rwa [UInt8.ofNat_toNat]at this
theorem zZa{α:Type}(p:α->Bool):∀l:List α,l.dropWhile p=[] ↔ l.all p=true
 | []=>by simp
 | a :: l=>by
  by_cases h:p a=true
  ·rw[List.dropWhile_cons,if_pos h,zZa p l];simp[h]
  ·simp[List.dropWhile,h]
theorem zZb{α:Type}(p:α->Bool):∀l:List α,(l.dropWhile p).all p=true ↔ l.all p=true
 | []=>by simp
 | a :: l=>by
  by_cases h:p a=true
  ·simp only[List.dropWhile_cons,h,if_pos,List.all_cons,Bool.true_and]
   exact zZb p l
  ·simp[List.dropWhile,h]
theorem yXB(l cs:List UInt8):Lib.trimS l cs=[] ↔ l.all (cs.contains ·)=true:=by
 unfold Lib.trimS Lib.trimLeftS Lib.trimRightS
 rw[zZa]
 have:((l.reverse.dropWhile (cs.contains ·)).reverse).all (cs.contains ·)=(l.reverse.dropWhile (cs.contains ·)).all (cs.contains ·):=List.all_reverse
 rw[this,zZb,List.all_reverse]
theorem u110:(prog.info? 181).map (λi=>(i.zero,i.size))=some (some (.agg (Array.replicate 256 (.bool false))),256):=by kernel_rfl
theorem trim_c(s:ByteArray)(hs:s.size<=9223372036854775807)(w:World):Calls prog 190 #[.string s,.string ⟨#[65,66,67,68,69,70,71,72,73,74,75,76,77,78,79,80,81,82,83,84,85,86,87,88,89,90,48,49,50,51,52,53,54,55,56,57,95]⟩] w
  λe w'=>e=.returned (.string ⟨(Lib.trimS s.data.toList xYx).toArray⟩)/\Pu w w':=
 Any.strings_Trim_laid Tryz.lays160 u110 s ⟨#[65,66,67,68,69,70,71,72,73,74,75,76,77,78,79,80,81,82,83,84,85,86,87,88,89,90,48,49,50,51,52,53,54,55,56,57,95]⟩ w hs (by decide) (ascii_of_all (by decide))
theorem zWp{s:ByteArray}{k:Nat}(h:k<s.size):∃b,s[k]?=some b/\s.data.toList[k]?=some b:=by
 refine⟨s[k],by simp[h],?_⟩
 have:k<s.data.toList.length:=by simpa using h
 rw[List.getElem?_eq_getElem this]
 rfl
theorem zY3 {s:ByteArray} {k:Nat} {b:UInt8} (h:s.data.toList[k]?=some b):s[k]?=some b:=by
 have hk:k<s.size:=by have:=(List.getElem?_eq_some_iff.1 h).1;simpa using this
 obtain⟨c,h1,h2⟩:=zWp hk
 rw[h2]at h
 rw[h1];exact h
theorem xZL(s:ByteArray)(hs:s.size<=140737488355328)(w:World):Calls prog 146 #[.string s] w λe w'=>e=.returned (.bool (zZr s))/\Pu w w':=by
 refine yWB _ w _ ?_
 have no:∀{w2:World},Pu w w2->zZr s=false->(Ending.returned (Value.bool false)=Ending.returned (Value.bool (zZr s))/\Pu w w2):=λh1 h2=>⟨by rw[h2],h1⟩
 rw[xQp,zXX]
 refine Br.of (λd0=>Br.of (λd1=>(trim_c s (by omega) w).mono ?_) (λd1=>no (Pu.refl _) ?_)) (λd0=>no (Pu.refl _) ?_)
 ·rintro e w2 ⟨rfl,aq⟩
  have d0:¬s.size=0:=by simpa using d0
  have d1:s.size<=10:=by have:=zQj d1;omega
  refine⟨_,rfl,?_⟩
  have e2:((ByteArray.mk (Lib.trimS s.data.toList xYx).toArray).toList == (⟨#[]⟩:ByteArray).toList)=s.data.toList.all (λb=>zWT b || zZk b || decide (b.toNat=95)):=by
   rw[zXX]
   have h1:((ByteArray.mk (Lib.trimS s.data.toList xYx).toArray).size=0) ↔ s.data.toList.all (xYx.contains ·)=true:=by
    rw[←yXB];simp[ByteArray.size]
   rw[show(λb:UInt8=>zWT b || zZk b || decide (b.toNat=95))=(xYx.contains ·)from funext λb=>(xVZ b).symm]
   rw[Bool.eq_iff_iff,decide_eq_true_iff];exact h1
  rw[e2]
  have en:zZr s=(s.data.toList.all (λb=>zWT b || zZk b || decide (b.toNat=95)) && (s.data.toList.take 1).all zWT):=by
   unfold zZr;rw[decide_eq_true (show 1<=s.size by omega),decide_eq_true d1];simp only[Bool.true_and]
  obtain⟨b,aA,aN⟩:=zWp (s:=s) (k:=0) (by omega)
  have ht:s.data.toList.take 1=[b]:=by
   cases hl:s.data.toList with
   | nil=>rw[hl]at aN;simp at aN
   | cons a r=>rw[hl]at aN;simp at aN;simp[aN]
  refine Br.of (λd2=>⟨b,by omega,aA,Br.of (λd3=>⟨b,by omega,aA,?_,aq⟩) (λd3=>?_)⟩) (λd2=>?_)
  ·have d3:=zQj d3
   rw[en,d2,ht]
   simp only[List.all_cons,List.all_nil,Bool.and_true,Bool.true_and,zWT]
   rw[decide_eq_true (show 65<=b.toNat by omega)]
   simp only[Bool.true_and]
   congr 3
   exact propext (by omega)
  ·have d3:=zQd d3
   refine no aq ?_
   rw[en,d2,ht]
   simp only[List.all_cons,List.all_nil,Bool.and_true,Bool.true_and,zWT]
   rw[decide_eq_false (show ¬65<=b.toNat by omega)];rfl
  ·exact no aq (by rw[en,d2];rfl)
 ·have:=zQd d1
  unfold zZr;rw[decide_eq_false (show ¬s.size<=10 by omega)];simp
 ·have:s.size=0:=by simpa using d0
  unfold zZr;rw[this];rfl
theorem xQc(b:UInt8)(w:World):Calls prog 166 #[.int .u8 ((b.toNat:Nat):Int)] w λe w'=>e=.returned (.bool (zZk b))/\Pu w w':=by
 refine yKA _ w _ (Br.of (λd=>?_) (λd=>?_))
 ·refine⟨?_,Pu.refl w⟩
  unfold zZk;have:=zQj d;rw[decide_eq_true (show 48<=b.toNat by omega),Bool.true_and]
  congr 2;simp only[decide_eq_decide];omega
 ·refine⟨?_,Pu.refl w⟩
  unfold zZk;have:=zQd d;rw[decide_eq_false (show ¬48<=b.toNat by omega)];rfl
theorem zJP {α:Type} (p:α->Bool) {l:List α} {k:Nat} {x:α} (h:l[k]?=some x):(l.take (k+1)).all p=((l.take k).all p && p x):=by
 rw[zQC h,List.all_append];simp
theorem xQa(s:ByteArray)(w:World):Calls prog 130 #[.string s] w λe w'=>e=.returned (.bool (zZr s))/\Pu w w':=by
 refine yWE _ w _ (Br.of (λd0=>⟨?_,Pu.refl _⟩) (λd0=>Br.of (λd1=>⟨?_,Pu.refl _⟩) (λd1=>?_)))
 ·have:=zQj d0
  unfold zZr;rw[decide_eq_false (show ¬1<=s.size by omega)];rfl
 ·have:=zQj d1
  unfold zZr;rw[decide_eq_false (show ¬s.size<=10 by omega)];simp
 have d0:=zQd d0
 have d1:=zQd d1
 have en:zZr s=(s.data.toList.all (λb=>zWT b || zZk b || decide (b.toNat=95)) && (s.data.toList.take 1).all zWT):=by
  unfold zZr;rw[decide_eq_true (show 1<=s.size by omega),decide_eq_true (show s.size<=10 by omega)];simp only[Bool.true_and]
 refine zQx s.size (λk t w'=>t=(k:Int)/\Pu w w'/\(s.data.toList.take k).all (λb=>zWT b || zZk b || decide (b.toNat=95))=true/\((s.data.toList.take k).take 1).all zWT=true) ⟨rfl,Pu.refl _,rfl,rfl⟩ ?_
 rintro k J t w2 hk ⟨ht,aq,ha,hf⟩ hJ
 obtain rfl:t=(k:Int):=ht
 refine Br.of (λd2=>?_) (λd2=>?_)
 ·have hks:k<s.size:=by have:=zQj d2;omega
  obtain⟨b,aA,aN⟩:=zWp hks
  have hu:=b.toNat_lt
  have go:∀{w3:World},Pu w2 w3->(zWT b || zZk b || decide (b.toNat=95))=true->(k=0->zWT b=true)->zWz (λe w'=>e=.returned (.bool (zZr s))/\Pu w w') J s (k:Int) [] w3:=λ{w3} au h1 h2=>by
   show J (IntKind.i64.wrap ((k:Int)+1)) w3
   rw[zQa (by omega) (by omega)]
   refine hJ _ _ hks ⟨by omega,aq.trans au,?_,?_⟩
   ·rw[zJP _ aN,ha,h1];rfl
   ·by_cases h0:k=0
    ·subst h0;rw[zQC aN];simp[h2 rfl]
    ·have:((s.data.toList.take (k+1)).take 1)=(s.data.toList.take k).take 1:=by rw[List.take_take,List.take_take];congr 1;omega
     rw[this];exact hf
  have no:∀{w3:World},Pu w2 w3->((zWT b || zZk b || decide (b.toNat=95))=false∨(k=0/\zWT b=false))->(Ending.returned (Value.bool false)=Ending.returned (Value.bool (zZr s))/\Pu w w3):=λ{w3} au h=>by
   refine⟨?_,aq.trans au⟩
   have hm:b ∈ s.data.toList:=List.mem_of_getElem? aN
   rcases h with h|⟨h0,h⟩
   ·have:s.data.toList.all (λb=>zWT b || zZk b || decide (b.toNat=95))=false:=by
     rw[List.all_eq_false];exact⟨b,hm,by rw[h];simp⟩
    rw[en,this];rfl
   ·subst h0
    have:(s.data.toList.take 1).all zWT=false:=by rw[zQC aN];simp[h]
    rw[en,this];simp
  refine⟨b,by omega,by rw[zXn];exact aA,?_⟩
  have tail:zWT b=false->Br ((k:Int) == 0) (Ending.returned (Value.bool false)=Ending.returned (Value.bool (zZr s))/\Pu w w2) (Br (((b.toNat:Nat):Int) != 95) (Calls prog 166 #[.int .u8 ((b.toNat:Nat):Int)] w2 λe w3=>∃sT:Bool,e=.returned (.bool sT)/\Br (!sT) (Ending.returned (Value.bool false)=Ending.returned (Value.bool (zZr s))/\Pu w w3) (zWz (λe w'=>e=.returned (.bool (zZr s))/\Pu w w') J s (k:Int) [] w3)) (zWz (λe w'=>e=.returned (.bool (zZr s))/\Pu w w') J s (k:Int) [] w2)):=λhc=>by
   refine Br.of (λd3=>no (Pu.refl _) (.inr ⟨by have:=zQD d3;omega,hc⟩)) (λd3=>Br.of (λd4=>(xQc b w2).mono ?_) (λd4=>go (Pu.refl _) ?_ (λh=>absurd (by omega) (zQm d3))))
   ·rintro e w3 ⟨rfl,au⟩
    refine⟨_,rfl,Br.of (λd5=>no au (.inl ?_)) (λd5=>go au ?_ (λh=>absurd (by omega) (zQm d3)))⟩
    ·have d5:zZk b=false:=by simpa using d5
     have d4:=zQw d4
     rw[hc,d5,decide_eq_false (by omega)];rfl
    ·have d5:zZk b=true:=by simpa using d5
     rw[d5];simp
   ·have:=zQq d4
    rw[decide_eq_true (show b.toNat=95 by omega)];simp
  refine Br.of (λd3=>Br.of (λd4=>?_) (λd4=>go (Pu.refl _) ?_ (λ_=>?_))) (λd3=>?_)
  ·refine tail ?_
   have d4:¬((b.toNat:Nat):Int)<=90:=by simpa using d4
   unfold zWT;rw[decide_eq_false (show ¬b.toNat<=90 by omega)];simp
  ·have d3:=zQj d3
   have d4:((b.toNat:Nat):Int)<=90:=by simpa using d4
   unfold zWT;rw[decide_eq_true (show b.toNat<=90 by omega),decide_eq_true (show 65<=b.toNat by omega)];rfl
  ·have d3:=zQj d3
   have d4:((b.toNat:Nat):Int)<=90:=by simpa using d4
   unfold zWT;rw[decide_eq_true (show b.toNat<=90 by omega),decide_eq_true (show 65<=b.toNat by omega)];rfl
  ·refine tail ?_
   have d3:=zQd d3
   unfold zWT;rw[decide_eq_false (show ¬65<=b.toNat by omega)];simp
 ·have aH:k=s.size:=by have:=zQd d2;omega
  refine⟨?_,aq⟩
  rw[aH,show s.size=s.data.toList.length by simp,List.take_length]at ha hf
  rw[en,ha,hf];rfl
end Go.Proofs.YtaeecpjhfmcliaaGreatDoor
/- Table: fields and pages: which are right; empty values. No condition. -/
namespace Go.Proofs.YtaeecpjhfmcliaaGreatDoor
open Go.Sh Go.RowKit Tryz
theorem zZ5{p q:Prop}[Decidable p][Decidable q](h:p ↔ q):decide p=decide q:=by simp[h]
abbrev zYY(f:Fld):Value:=.agg #[.string f.name,.int .i64 f.kind,.int .i64 f.width,.bool f.null]
abbrev zJ5(v:Val):Value:=.agg #[.int .i64 v.kind,.int .i64 v.n,.string v.s]
theorem yKr(n:Int)(w:World):Calls prog 116 #[.int .i64 n] w λe w'=>e=.returned (.bool (zQV n))/\Pu w w':=by
 refine yKW _ w _ (Br.of (λd=>?_) (λd=>?_))
 ·exact⟨by rw[zQV,decide_eq_true (show 0<=n from zQj d)];rfl,Pu.refl w⟩
 ·exact⟨by rw[zQV,decide_eq_false (show ¬0<=n from zQd d)];rfl,Pu.refl w⟩
theorem yZ3(n:Int)(w:World):Calls prog 52 #[.int .i64 n] w λe w'=>e=.returned (.bool (zQV n))/\Pu w w':=by
 refine xQn _ w _ (Br.of (λd=>?_) (λd=>?_))
 ·exact⟨by rw[zQV,decide_eq_true (show 0<=n from zQj d)];rfl,Pu.refl w⟩
 ·exact⟨by rw[zQV,decide_eq_false (show ¬0<=n from zQd d)];rfl,Pu.refl w⟩
theorem yYb(k:Int):∃n a b x y,(zXb k).elim (.agg #[.int .u8 0,.int .i64 0,.int .i64 0,.nilFunc,.nilFunc]) zYQ=.agg #[.int .u8 n,.int .i64 a,.int .i64 b,x,y]/\yQR x=true/\yQR y=true/\
  (zXb k).isSome=decide (k=1∨k=2∨k=3∨k=4∨k=5)/\((zXb k).isSome=true->∀m:Int,zWM k m=(decide (a<=m) && decide (m<=b))):=by
 rcases zJM k with⟨rfl,h⟩|⟨rfl,h⟩|⟨rfl,h⟩|⟨rfl,h⟩|⟨rfl,h⟩|⟨h1,h2,h3,h4,h5,h⟩
 ·rw[h];refine⟨_,_,_,_,_,rfl,rfl,rfl,rfl,λ_ m=>?_⟩
  show decide (m=1)=(decide (1<=m) && decide (m<=1))
  rw[←Bool.decide_and];exact zZ5 (by omega)
 ·rw[h];exact⟨_,_,_,_,_,rfl,rfl,rfl,rfl,λ_ m=>rfl⟩
 ·rw[h];refine⟨_,_,_,_,_,rfl,rfl,rfl,rfl,λ_ m=>?_⟩
  show decide (m=8)=(decide (8<=m) && decide (m<=8))
  rw[←Bool.decide_and];exact zZ5 (by omega)
 ·rw[h];exact⟨_,_,_,_,_,rfl,rfl,rfl,rfl,λ_ m=>rfl⟩
 ·rw[h];refine⟨_,_,_,_,_,rfl,rfl,rfl,rfl,λ_ m=>?_⟩
  show decide (m=8)=(decide (8<=m) && decide (m<=8))
  rw[←Bool.decide_and];exact zZ5 (by omega)
 ·rw[h];exact⟨_,_,_,_,_,rfl,rfl,rfl,by simp[h1,h2,h3,h4,h5],λhn=>by simp at hn⟩
theorem yQg {k:Int} (h:(zXb k).isSome=false) (m:Int):zWM k m=false:=by
 rcases zJM k with⟨rfl,h1⟩|⟨rfl,h1⟩|⟨rfl,h1⟩|⟨rfl,h1⟩|⟨rfl,h1⟩|⟨h1,h2,h3,h4,h5,_⟩
 ·rw[h1]at h;simp at h
 ·rw[h1]at h;simp at h
 ·rw[h1]at h;simp at h
 ·rw[h1]at h;simp at h
 ·rw[h1]at h;simp at h
 ·unfold zWM;rw[if_neg h1,if_neg h2,if_neg h3,if_neg h4,if_neg h5]
theorem xYK{n a b:Int}{x y:Value}(hx:yQR x=true)(hy:yQR y=true):(#[.int .u8 n,.int .i64 a,.int .i64 b,x,y]:Array Value).toList.all yQR=true:=by
 show([.int .u8 n,.int .i64 a,.int .i64 b,x,y]:List Value).all yQR=true
 simp only[List.all_cons,List.all_nil,hx,hy];rfl
theorem s102:zX8 prog 174=5:=by kernel_rfl
theorem s25:zX8 prog 73=3:=by kernel_rfl
theorem s23:zX8 prog 129=4:=by kernel_rfl
theorem yZc(f:Fld)(hs:f.name.size<=140737488355328)(w:World):Calls prog 115 #[zYY f] w λe w'=>e=.returned (.bool (zQo f))/\Pu w w':=by
 refine yWn _ _ _ _ w _ ?_
 refine alB λw1 ar aA=>zQc λw2 aq hh2=>?_
 have dO:=ar.trans aq
 refine⟨λw'=>Pu w2 w',Pu.refl _,f.kind,λw' hw'=>hw'.cell (aq.cell (cl aA 1)),?_⟩
 obtain⟨n,a,b,x,y,hk,hx,hy,hsome,hkw⟩:=yYb f.kind
 have main:∀{w3 w4:World} {r:Nat},Pu w1 w3->w3.heap[r]?=some (.cells #[.int .u8 n,.int .i64 a,.int .i64 b,x,y] 174)->Pu w w3->
   yKn (λe w'=>e=.returned (.bool (zQo f))/\Pu w w') (some (⟨w.heap.size,0,none⟩:Addr)) (some (⟨r,0,none⟩:Addr)) (zXb f.kind).isSome [] w3:=λ{w3 w4 r} q1 q2 q3=>by
  have no:∀{w5:World},Pu w w5->zQo f=false->(Ending.returned (Value.bool false)=Ending.returned (Value.bool (zQo f))/\Pu w w5):=λh1 h2=>⟨by rw[h2],h1⟩
  have bo:=q1.blk aA
  refine Br.of (λd=>⟨f.name,cl0 bo,(xZL f.name hs w3).mono ?_⟩) (λd=>no q3 ?_)
  ·rintro e w5 ⟨rfl,aT⟩
   have bq:=aT.blk bo
   have hr5:=aT.blk q2
   refine⟨_,rfl,Br.of (λd1=>⟨_,cl bq 2,_,cl hr5 1,Br.of (λd2=>⟨_,cl bq 2,_,cl hr5 2,?_,q3.trans aT⟩) (λd2=>no (q3.trans aT) ?_)⟩) (λd1=>no (q3.trans aT) ?_)⟩
   ·unfold zQo;rw[d1,hkw d,decide_eq_true (show a<=f.width from zQj d2)];rfl
   ·unfold zQo;rw[d1,hkw d,decide_eq_false (show ¬a<=f.width from zQd d2)];rfl
   ·unfold zQo;rw[d1];rfl
  ·unfold zQo;rw[yQg d];simp
 have hlook:∀{m:Nat} {w':World},zXB w' yJv zYQ m zZd->(Instr.lookup 176 (.map (some m)) (.int .i64 f.kind) true).run prog w'=.ok (.tuple #[.agg #[.int .u8 n,.int .i64 a,.int .i64 b,x,y],.bool (zXb f.kind).isSome]) w':=λ{m w'} hm=>by
  rw[zW4 hm,hk];rfl
 constructor
 ·refine(zVf w2).mono ?_
  rintro e w3 ⟨m,rfl,hm,_,au⟩
  refine⟨some m,rfl,λw'=>Pu w3 w',Pu.refl _,λu hu=>au.trans hu,n,a,b,x,y,(zXb f.kind).isSome,λw' hw'=>hlook (hm.pu hw'),?_⟩
  refine alB λw4 aK cI=>⟨λw'=>Pu w3 w',aK,λu hu=>hu,?_⟩
  refine zQg cI s102.symm rfl (xYK hx hy) λw5 bq dq ou=>?_
  have cx:Pu w3 w5:=aK.andNew dq λi hi=>by omega
  exact main (w4:=w4) ((aq.trans au).trans cx) bq (dO.trans (au.trans cx))
 ·refine alB λw4 aK cI=>⟨λw'=>Pu w4 w',Pu.refl _,λu hu=>aK.trans hu,?_⟩
  refine(zVf w4).mono ?_
  rintro e w3 ⟨m,rfl,hm,_,au⟩
  refine⟨some m,rfl,λw'=>Pu w3 w',Pu.refl _,λu hu=>au.trans hu,n,a,b,x,y,(zXb f.kind).isSome,λw' hw'=>hlook (hm.pu hw'),?_⟩
  refine zQg (au.blk cI) s102.symm rfl (xYK hx hy) λw5 bq dq ou=>?_
  have mM:Pu w2 w5:=(aK.trans au).andNew dq λi hi=>by omega
  exact main (w4:=w4) (aq.trans mM) bq (dO.trans mM)
theorem yQ7(f:Fld)(w:World):Calls prog 91 #[zYY f] w λe w'=>e=.returned (.bool (zQo f))/\Pu w w':=by
 refine xXx _ _ _ _ w _ ?_
 refine alB λw1 ar aA=>⟨_,cl0 aA,(xQa f.name w1).mono ?_⟩
 rintro e w2 ⟨rfl,aq⟩
 have aN:=aq.blk aA
 have q2:=ar.trans aq
 have out:∀{b:Bool},b=zQo f->(Ending.returned (Value.bool b)=Ending.returned (Value.bool (zQo f))/\Pu w w2):=λh=>⟨by rw[h],q2⟩
 have two:∀{lo hi:Int},(zZr f.name=true->zWM f.kind f.width=(decide (lo<=f.width) && decide (f.width<=hi)))->zZr f.name=true->
   Br (decide (f.width >= lo)) (∃n:Int,w2.cell? ((⟨w.heap.size,0,none⟩:Addr).add 2)=some (.int .i64 n)/\(Ending.returned (Value.bool (decide (n<=hi)))=Ending.returned (Value.bool (zQo f))/\Pu w w2)) (Ending.returned (Value.bool false)=Ending.returned (Value.bool (zQo f))/\Pu w w2):=λ{lo hi} h h0=>
  Br.of (λd=>⟨_,cl aN 2,out (by unfold zQo;rw[h0,h h0,decide_eq_true (show lo<=f.width from zQj d)];rfl)⟩) (λd=>out (by unfold zQo;rw[h0,h h0,decide_eq_false (show ¬lo<=f.width from zQd d)];rfl))
 refine⟨_,rfl,Br.of (λd=>out ?_) (λd=>?_)⟩
 ·have:zZr f.name=false:=by simpa using d
  unfold zQo;rw[this];rfl
 have hn:zZr f.name=true:=by simpa using d
 have ef:zQo f=zWM f.kind f.width:=by unfold zQo;rw[hn];rfl
 refine⟨_,cl aN 1,Br.of (λd1=>⟨_,cl aN 2,out ?_⟩) (λd1=>Br.of (λd2=>⟨_,cl aN 2,two ?_ hn⟩) (λd2=>Br.of (λd3=>Br.of (λd4=>⟨_,cl aN 2,out ?_⟩) (λd4=>?_)) (λd3=>Br.of (λd4=>⟨_,cl aN 2,out ?_⟩) (λd4=>Br.of (λd5=>⟨_,cl aN 2,two ?_ hn⟩) (λd5=>out ?_)))))⟩
 ·rw[ef,zQD d1];show(f.width == 1)=decide (f.width=1);simp[BEq.beq]
 ·intro _;rw[zQD d2];rfl
 ·rw[ef,zQD d3];show(f.width == 8)=decide (f.width=8);simp[BEq.beq]
 ·exact absurd (zQD d3) (zQm d4)
 ·rw[ef,zQD d4];show(f.width == 8)=decide (f.width=8);simp[BEq.beq]
 ·intro _;rw[zQD d5];rfl
 ·rw[ef];unfold zWM;rw[if_neg (zQm d1),if_neg (zQm d2),if_neg (zQm d3),if_neg (zQm d5),if_neg (zQm d4)]
theorem xZc(f:Fld)(w:World):Calls prog 118 #[zYY f] w λe w'=>e=.returned (zJ5 (zXk f))/\Pu w w':=by
 refine yVt _ _ _ _ w _ ?_
 refine alB λw1 ar aA=>alB λw2 aq aN=>⟨_,cl (aq.blk aA) 1,Br.of (λd=>?_) (λd=>⟨_,cl (aq.blk aA) 1,?_⟩)⟩
 ·refine zQg aN s25.symm rfl rfl λw3 bo fS qn=>?_
  have bj:Pu w w3:=ar.trans (aq.andNew fS λi hi=>by omega)
  exact⟨_,cl bo 0,_,cl bo 1,_,cl bo 2,by unfold zXk;rw[if_pos (zQD d)],bj⟩
 ·refine zQg aN s25.symm rfl rfl λw3 bo fS qn=>?_
  have bj:Pu w w3:=ar.trans (aq.andNew fS λi hi=>by omega)
  exact⟨_,cl bo 0,_,cl bo 1,_,cl bo 2,by unfold zXk;rw[if_neg (zQm d)],bj⟩
theorem xYn(s:ByteArray)(w:World):Calls prog 177 #[.string s] w λe w'=>e=.returned (zJ5 ⟨4,0,s⟩)/\Pu w w':=by
 refine yVG _ w _ ?_
 refine alB λw2 aq aN=>?_
 refine zQg aN s25.symm rfl rfl λw3 bo fS qn=>?_
 exact⟨_,cl bo 0,_,cl bo 1,_,cl bo 2,rfl,aq.andNew fS λi hi=>by omega⟩
end Go.Proofs.YtaeecpjhfmcliaaGreatDoor
/- Table: numbers in digits; blanks at a text's end. No condition. -/
namespace Go.Proofs.YtaeecpjhfmcliaaGreatDoor
open Go.Sh Go.RowKit Tryz
theorem zJ4(a b:List UInt8):bs a ++ bs b=bs (a ++ b):=zQU (by simp[bs])
theorem zJA(a b:ByteArray):a ++ b=bs (a.data.toList ++ b.data.toList):=zQU (by simp[bs])
theorem zQ7(s:ByteArray)(i j:Nat):(s.extract i j).data.toList=(s.data.toList.take j).drop i:=by
 rw[ByteArray.data_extract,Array.toList_extract,List.extract_eq_take_drop,List.drop_take]
theorem zVW:∀k:Nat,k<10->(⟨#[48,49,50,51,52,53,54,55,56,57]⟩:ByteArray).extract k (k+1)=bs [UInt8.ofNat (48+k)]:=by
 intro k hk
 apply zQU
 rw[zQ7,zQN]
 match k,hk with
 | 0,_=>rfl
 | 1,_=>rfl
 | 2,_=>rfl
 | 3,_=>rfl
 | 4,_=>rfl
 | 5,_=>rfl
 | 6,_=>rfl
 | 7,_=>rfl
 | 8,_=>rfl
 | 9,_=>rfl
theorem zZj{n:Nat}(h:n<10):zZH n=[UInt8.ofNat (48+n)]:=by rw[zZH,dif_pos h]
theorem zZC{n:Nat}(h:¬n<10):zZH n=zZH (n / 10) ++ [UInt8.ofNat (48+n % 10)]:=by rw[zZH,dif_neg h]
theorem zKK(n:Nat):(zZH n).length<=n+1:=by
 induction n using Nat.strongRecOn with
 | _ n ih=>
  by_cases h:n<10
  ·rw[zZj h];simp
  ·rw[zZC h]
   have:=ih (n / 10) (by omega)
   simp only[List.length_append,List.length_singleton];omega
theorem yXr(n:Nat):1<=(zZH n).length:=by
 by_cases h:n<10
 ·rw[zZj h];simp
 ·rw[zZC h];simp
theorem zKN(n:Nat):∀b ∈ zZH n,48<=b.toNat/\b.toNat<=57:=by
 induction n using Nat.strongRecOn with
 | _ n ih=>
  have one:∀k,k<10->48<=(UInt8.ofNat (48+k)).toNat/\(UInt8.ofNat (48+k)).toNat<=57:=λk hk=>by simp;omega
  by_cases h:n<10
  ·rw[zZj h];intro b hb;simp only[List.mem_singleton]at hb;subst hb;exact one n h
  ·rw[zZC h];intro b hb
   rcases List.mem_append.1 hb with hb|hb
   ·exact ih (n / 10) (by omega) b hb
   ·simp only[List.mem_singleton]at hb;subst hb;exact one _ (by omega)
theorem yKo:∀(n:Nat),n<=4611686018427387904->∀w:World,Calls prog 154 #[.int .i64 (n:Int)] w λe w'=>e=.returned (.string (bs (zZH n)))/\Pu w w':=by
 intro n
 induction n using Nat.strongRecOn with
 | _ n ih=>
  intro hn w
  refine yQC _ w _ (Br.of (λd=>absurd (zQj d) (by omega)) (λd=>Br.of (λd1=>?_) (λd1=>zQc λw4 aK _=>?_)))
  ·have d1:n<10:=by have:=zQj d1;omega
   rw[zQa (by omega) (by omega)]
   refine⟨by omega,?_,by omega,by omega,?_,Pu.refl w⟩
   ·show _<=10;omega
   ·rw[zXn,show((n:Int)+1).toNat=n+1 by omega,zVW n d1,zZj d1]
  ·have d1:¬n<10:=by have:=zQd d1;omega
   have e1:((n:Int).tmod 10)=((n % 10:Nat):Int):=by rw[Int.tmod_eq_emod_of_nonneg (by omega)];omega
   have e2:((n:Int).tdiv 10)=((n / 10:Nat):Int):=by rw[Int.tdiv_eq_ediv_of_nonneg (by omega)];omega
   rw[e1,e2,zQa (by omega) (by omega),zQa (by omega) (by omega)]
   have e3:(((n % 10:Nat):Int)+1).toNat=n % 10+1:=by omega
   rw[e3,zXn,zVW (n % 10) (by omega)]
   refine⟨rfl,by omega,rfl,by omega,rfl,by omega,by omega,?_,by omega,by omega,(ih (n / 10) (by omega) (by omega) w4).mono ?_⟩
   ·show _<=10;omega
   rintro e w5 ⟨rfl,aT⟩
   refine⟨_,rfl,?_,?_,aK.trans aT⟩
   ·rw[zQ8,zQ8];have:=zKK (n / 10);simp only[List.length_singleton];omega
   ·rw[zJ4,zZC d1]
theorem zKG(n:Nat):zJo (n:Int)=zZH n:=by unfold zJo;rw[if_neg (by omega)];rfl
theorem zVP{n:Int}(h:n<0):zJo n=45 :: zZH n.natAbs:=by unfold zJo;rw[if_pos h]
theorem dec_c{n:Int}(h1:-4611686018427387904<=n)(h2:n<=4611686018427387904)(w:World):Calls prog 154 #[.int .i64 n] w λe w'=>e=.returned (.string (bs (zJo n)))/\Pu w w':=by
 by_cases h:n<0
 ·refine yQC _ w _ (Br.of (λd=>?_) (λd=>absurd h (zQd d)))
  rw[zQa (by omega) (by omega)]
  have e:(0 - n:Int)=((n.natAbs:Nat):Int):=by omega
  rw[e]
  refine(yKo n.natAbs (by omega) w).mono ?_
  rintro e w2 ⟨rfl,hp⟩
  refine⟨_,rfl,?_,?_,hp⟩
  ·have e4:=zQ8 (zZH n.natAbs);have:=zKK n.natAbs;show(((1+(bs (zZH n.natAbs)).size:Nat)):Int)<=_;omega
  ·rw[zVP h];exact congrArg (λx=>Ending.returned (Value.string x)) (zJ4 [45] _)
 ·obtain⟨k,rfl⟩:∃k:Nat,n=k:=⟨n.toNat,by omega⟩
  rw[zKG]
  exact yKo k (by omega) w
theorem zVF:∀(n:Nat),n<=9223372036854775807->∀w:World,Calls prog 134 #[.int .i64 (n:Int)] w λe w'=>e=.returned (.string (bs (zZH n)))/\Pu w w':=by
 intro n
 induction n using Nat.strongRecOn with
 | _ n ih=>
  intro hn w
  refine yQn _ w _ (Br.of (λd=>absurd (zQj d) (by omega)) (λd=>Br.of (λd1=>?_) (λd1=>?_)))
  ·have d1:n<10:=by have:=zQj d1;omega
   rw[zQa (by omega) (by omega)]
   refine⟨by omega,?_,by omega,by omega,?_,Pu.refl w⟩
   ·show _<=10;omega
   ·rw[zXn,show((n:Int)+1).toNat=n+1 by omega,zVW n d1,zZj d1]
  ·have d1:¬n<10:=by have:=zQd d1;omega
   have e1:((n:Int).tmod 10)=((n % 10:Nat):Int):=by rw[Int.tmod_eq_emod_of_nonneg (by omega)];omega
   have e2:((n:Int).tdiv 10)=((n / 10:Nat):Int):=by rw[Int.tdiv_eq_ediv_of_nonneg (by omega)];omega
   rw[e1,e2,zQa (by omega) (by omega)]
   refine⟨rfl,by omega,(ih (n / 10) (by omega) (by omega) w).mono ?_⟩
   rintro e w5 ⟨rfl,aT⟩
   refine⟨_,rfl,rfl,by omega,(ih (n % 10) (by omega) (by omega) w5).mono ?_⟩
   rintro e w6 ⟨rfl,bE⟩
   refine⟨_,rfl,?_,?_,aT.trans bE⟩
   ·rw[zQ8,zQ8];have:=zKK (n / 10);have:=zKK (n % 10);omega
   ·rw[zJ4,zZC d1,zZj (show n % 10<10 by omega)]
theorem xQo:zJo (-9223372036854775808)=[45,57,50,50,51,51,55,50,48,51,54,56,53,52,55,55,53,56,48,56]:=by decide +kernel
theorem xQL{n:Int}(hn:zJe n)(w:World):Calls prog 134 #[.int .i64 n] w λe w'=>e=.returned (.string (bs (zJo n)))/\Pu w w':=by
 obtain⟨h1,h2⟩:=hn
 by_cases h:n<0
 ·refine yQn _ w _ (Br.of (λd=>Br.of (λd1=>?_) (λd1=>?_)) (λd=>absurd h (zQd d)))
  ·rw[zQD d1,xQo];exact⟨rfl,Pu.refl w⟩
  have d1:=zQm d1
  rw[zQa (by omega) (by omega)]
  have e:(0 - n:Int)=((n.natAbs:Nat):Int):=by omega
  rw[e]
  refine(zVF n.natAbs (by omega) w).mono ?_
  rintro e w2 ⟨rfl,hp⟩
  have hl:(zZH n.natAbs).length<9223372036854775807:=by
   by_cases mV:n.natAbs<10
   ·rw[zZj mV];simp
   ·rw[zZC mV];have:=zKK (n.natAbs / 10);simp only[List.length_append,List.length_singleton];omega
  refine⟨_,rfl,?_,?_,hp⟩
  ·have e4:=zQ8 (zZH n.natAbs);show(((1+(bs (zZH n.natAbs)).size:Nat)):Int)<=_;omega
  ·rw[zVP h];exact congrArg (λx=>Ending.returned (Value.string x)) (zJ4 [45] _)
 ·obtain⟨k,rfl⟩:∃k:Nat,n=k:=⟨n.toNat,by omega⟩
  rw[zKG]
  exact zVF k (by omega) w
theorem zYz(b:UInt8):∀n,Lib.repeatL [b] n=List.replicate n b
 | 0=>rfl
 | n+1=>by rw[List.replicate_succ,←zYz b n];rfl
theorem zKC(b:UInt8)(n:Nat)(hn:n<=140737488355328)(w:World):Calls prog 155 #[.string ⟨#[b]⟩,.int .i64 (n:Int)] w λe w'=>e=.returned (.string (bs (List.replicate n b)))/\Pu w w':=by
 have h:=Any.strings_Repeat Tryz.lays105 Tryz.Builder_Extra_105 ⟨#[b]⟩ n w (by omega) (by show 1 * n<=_;omega)
 have e:Lib.repeatL (⟨#[b]⟩:ByteArray).data.toList n=List.replicate n b:=zYz b n
 rw[e]at h
 exact h
theorem zYy(s:ByteArray)(hs:s.size<=140737488355328)(w:World):Calls prog 119 #[.string s,.string ⟨#[32]⟩] w λe w'=>e=.returned (.string (bs (zZs s.data.toList)))/\Pu w w':=
 (Any.strings_TrimRight_one Tryz.lays162 s 32 (by decide) w (by omega)).mono λe w' ⟨h1,h2⟩=>⟨h1,h2 ▸ Pu.refl _⟩
theorem zWK(l:List UInt8)(b:UInt8):zZs (l ++ [b])=if b=32 then zZs l else l ++ [b]:=by
 unfold zZs
 rw[List.reverse_append,List.reverse_singleton,List.singleton_append,List.dropWhile_cons]
 by_cases h:b=32
 ·simp[h]
 ·simp[h]
theorem yYD(s:ByteArray)(hs:s.size<=9223372036854775807)(w:World):Calls prog 135 #[.string s] w λe w'=>e=.returned (.string (bs (zZs s.data.toList)))/\Pu w w':=by
 refine yWM _ w _ ?_
 refine zQx s.size (λk t w'=>t=((s.size - k:Nat):Int)/\Pu w w'/\zZs s.data.toList=zZs (s.data.toList.take (s.size - k))) ⟨rfl,Pu.refl _,by rw[Nat.sub_zero,show s.size=s.data.toList.length by simp,List.take_length]⟩ ?_
 rintro k J t w2 hk ⟨ht,hp,hb⟩ hJ
 obtain rfl:t=((s.size - k:Nat):Int):=ht
 have fin:zZs (s.data.toList.take (s.size - k))=s.data.toList.take (s.size - k)->yZD (λe w'=>e=.returned (.string (bs (zZs s.data.toList)))/\Pu w w') s ((s.size - k:Nat):Int) [] w2:=λh=>by
  refine⟨by omega,by rw[zXn];omega,by omega,?_,hp⟩
  rw[zXn,hb,h]
  congr 2
  exact zQU (by rw[zQ7,zQN];rfl)
 refine Br.of (λd=>?_) (λd=>fin ?_)
 ·have aH:k<s.size:=by have:=zQj d;omega
  rw[yZD]at fin
  have e1:((s.size - k:Nat):Int) - 1=((s.size - (k+1):Nat):Int):=by omega
  rw[e1,zQa (by omega) (by omega)]
  obtain⟨b,aA,aN⟩:=zWp (s:=s) (k:=s.size - (k+1)) (by omega)
  have et:s.data.toList.take (s.size - k)=s.data.toList.take (s.size - (k+1)) ++ [b]:=by
   rw[show s.size - k=s.size - (k+1)+1 by omega,zQC aN]
  refine⟨b,by omega,by rw[zXn];exact aA,Br.of (λd1=>hJ _ _ aH ⟨rfl,hp,?_⟩) (λd1=>fin ?_)⟩
  ·have:b=32:=by have:=zQD d1;apply UInt8.toNat_inj.1;show b.toNat=32;omega
   rw[hb,et,zWK,if_pos this]
  ·have:¬b=32:=λh=>zQm d1 (by rw[h];rfl)
   rw[et,zWK,if_neg this]
 ·have:s.size - k=0:=by have:=zQd d;omega
  rw[this];rfl
end Go.Proofs.YtaeecpjhfmcliaaGreatDoor
/- Table: pages of characters; which texts a page has. No condition. -/
namespace Go.Proofs.YtaeecpjhfmcliaaGreatDoor
open Go.Sh Go.RowKit Tryz
def yKj(w:World)(r:Nat)(g:Nat->Bool):Prop:=∃c,w.heap[r]?=some (.cells c 213)/\c.size=768/\∀i,i<768->∃n:Int,c[i]?=some (.int .i32 n)/\decide (n<0)=g i
theorem yKj.ext{w:World}{r:Nat}{g g':Nat->Bool}(h:yKj w r g)(e:∀i,i<768->g i=g' i):yKj w r g':=
 let ⟨c,h1,h2,h3⟩:=h;⟨c,h1,h2,λi hi=>let ⟨n,h4,h5⟩:=h3 i hi;⟨n,h4,h5.trans (e i hi)⟩⟩
theorem yKj.fr{B:Nat->Prop}{w w':World}{r:Nat}{g:Nat->Bool}(h:yKj w r g)(hf:Fr B w w')(hn:¬B r):yKj w' r g:=
 let ⟨c,h1,h2⟩:=h;⟨c,hf.blk h1 hn,h2⟩
theorem yKj.st{w:World}{r:Nat}{g:Nat->Bool}(h:yKj w r g){j:Nat}(hj:j<768)(n:Int)(a:Addr)(ha:a=⟨r,j,none⟩){K:World->Prop}
  (hK:∀w',yKj w' r (λi=>if i=j then decide (n<0)else g i)->Fr (·=r) w w'->K w'):st1 a (.int .i32 n) w K:=by
 subst ha
 obtain⟨c,h1,h2,h3⟩:=h
 refine zQu h1 (by omega) λw' hw' hb'=>hK w' ⟨_,hb',by simp[h2],λi hi=>?_⟩ (by rw[hw'];exact Fr.cell w r j _)
 by_cases e:i=j
 ·subst e;exact⟨n,by simp[h2,hi],by simp⟩
 ·obtain⟨m,h4,h5⟩:=h3 i hi
  exact⟨m,by rw[Array.getElem?_setIfInBounds_ne (Ne.symm e)];exact h4,by simp[e,h5]⟩
theorem i32_in{n:Int}(h1:-2147483648<=n)(h2:n<=2147483647):IntKind.i32.wrap n=n:=Go.IntWalk.i32_in n ⟨h1,h2⟩
theorem xYl:zc prog 213=Array.replicate 768 (.int .i32 0):=by kernel_rfl
theorem s149:zX8 prog 213=768:=by kernel_rfl
def sg1(k i:Nat):Bool:=decide ((128<=i/\i<k)∨(640<=i/\i<512+k))
def sg2(k i:Nat):Bool:=decide ((128<=i/\i<256)∨(512+k<=i/\i<768))
def sg3(k i:Nat):Bool:=decide ((128<=i/\i<256)∨(688<=i/\i<736)∨(512+k<=i/\i<768))
theorem ad1(r:Nat)(p k:Nat):(((⟨r,0,none⟩:Addr).add ((p:Int).toNat * 256)).add ((k:Int).toNat * 1))=⟨r,p * 256+k,none⟩:=by
 rw[zQs,zQs,zXn,zXn,Nat.zero_add,Nat.mul_one]
theorem xY0(w:World):Calls prog 196 #[] w λe w'=>∃c:Array Value,e=.returned (.agg c)/\c.size=768/\(∀i,i<768->∃n:Int,c[i]?=some (.int .i32 n)/\decide (n<0)=sg3 240 i)/\Pu w w':=by
 refine yWf w _ ?_
 refine alB λw1 ar aA=>alB λw2 aq aN=>?_
 have hw12:w.heap.size<w1.heap.size:=zQy aA
 have g0:yKj w2 w1.heap.size (sg1 0):=⟨_,aN,by rw[xYl];simp,λi hi=>⟨0,by rw[xYl];simp[hi],by unfold sg1;simp;omega⟩⟩
 -- the end
 have fin:∀{w3:World},yKj w3 w1.heap.size (sg3 240)->Fr (·=w1.heap.size) w2 w3->xQf (λe w'=>∃c:Array Value,e=.returned (.agg c)/\c.size=768/\(∀i,i<768->∃n:Int,c[i]?=some (.int .i32 n)/\decide (n<0)=sg3 240 i)/\Pu w w') (some (⟨w.heap.size,0,none⟩:Addr)) (some (⟨w1.heap.size,0,none⟩:Addr)) [] w3:=by
  intro w3 ⟨c,h1,h2,h3⟩ hf
  have bo:=hf.blk (aq.blk aA) (show ¬w.heap.size=w1.heap.size by omega)
  refine⟨c,h2,λi hi=>cl h1 i,?_⟩
  have ho:c.toList.all yQR=true:=by
   rw[List.all_eq_true]
   intro v hv
   obtain⟨i,hi,rfl⟩:=List.getElem_of_mem hv
   have hi':i<c.size:=by simpa using hi
   obtain⟨n,h4,_⟩:=h3 i (by omega)
   rw[Array.getElem?_eq_getElem hi']at h4
   have h4:=Option.some.inj h4
   rw[Array.getElem_toList,h4];rfl
  refine zQg bo (by rw[s149,h2]) (by rw[xYl,h2];simp) ho λw4 cI fe xz=>?_
  refine⟨c,h2,λi hi=>cl cI i,c,rfl,h2,h3,?_⟩
  have hpu:Pu w w3:=(ar.trans aq).andNew hf λi hi=>by have hi:i=w1.heap.size:=hi;omega
  exact hpu.andNew fe λi hi=>by have hi:i=w.heap.size:=hi;omega
 refine zQx 256 (λk t w'=>t=(k:Int)/\yKj w' w1.heap.size (sg1 k)/\Fr (·=w1.heap.size) w2 w') ⟨rfl,g0,Fr.refl _ _⟩ ?_
 rintro k J t w3 hk ⟨ht,hg,hf⟩ hJ
 obtain rfl:t=(k:Int):=ht
 refine Br.of (λd=>?_) (λd=>?_)
 ·have aH:k<256:=by have:=zQj d;omega
  refine⟨by omega,by omega,by omega,by omega,?_⟩
  rw[i32_in (by omega) (by omega)]
  refine hg.st (j:=256+k) (by omega) (k:Int) _ (ad1 _ 1 k) λw4 hg4 fe=>?_
  rw[zQa (by omega) (by omega)]
  refine Br.of (λd1=>?_) (λd1=>?_)
  ·have d1:128<=k:=by have:=zQj d1;omega
   refine⟨by omega,by omega,by omega,by omega,hg4.st (j:=0+k) (by omega) (-1) _ (ad1 _ 0 k) λw5 wH dq=>⟨by omega,by omega,by omega,by omega,wH.st (j:=512+k) (by omega) (-1) _ (ad1 _ 2 k) λw6 hg6 jf=>?_⟩⟩
   refine hJ _ _ aH ⟨by omega,hg6.ext λi hi=>?_,((hf.trans fe λ_ h _=>h).trans dq λ_ h _=>h).trans jf λ_ h _=>h⟩
   simp only[sg1]
   repeat' split
   all_goals first|(simp only[decide_eq_decide];omega)|(rw[eq_comm,decide_eq_true_iff];omega)|(rw[eq_comm];simp;omega)|(simp;omega)
  ·have d1:¬128<=k:=by have:=zQd d1;omega
   refine⟨by omega,by omega,by omega,by omega,hg4.st (j:=0+k) (by omega) (k:Int) _ (ad1 _ 0 k) λw5 wH dq=>⟨by omega,by omega,by omega,by omega,wH.st (j:=512+k) (by omega) (k:Int) _ (ad1 _ 2 k) λw6 hg6 jf=>?_⟩⟩
   refine hJ _ _ aH ⟨by omega,hg6.ext λi hi=>?_,((hf.trans fe λ_ h _=>h).trans dq λ_ h _=>h).trans jf λ_ h _=>h⟩
   simp only[sg1]
   repeat' split
   all_goals first|(simp only[decide_eq_decide];omega)|(rw[eq_comm,decide_eq_true_iff];omega)|(rw[eq_comm];simp;omega)|(simp;omega)
 have aH:k=256:=by have:=zQd d;omega
 subst aH
 clear hJ J d
 refine zQx 48 (λk t w'=>t=((128+k:Nat):Int)/\yKj w' w1.heap.size (sg2 (128+k))/\Fr (·=w1.heap.size) w2 w') ⟨rfl,hg.ext λi hi=>by unfold sg1 sg2;exact zZ5 (by omega),hf⟩ ?_
 rintro k J t w4 hk ⟨ht,hg,hf⟩ hJ
 obtain rfl:t=((128+k:Nat):Int):=ht
 refine Br.of (λd=>?_) (λd=>?_)
 ·have aH:k<48:=by have:=zQj d;omega
  refine⟨by omega,by omega,by omega,by omega,?_⟩
  rw[zQa (by omega) (by omega),i32_in (n:=((128+k:Nat):Int) - 128) (by omega) (by omega),i32_in (by omega) (by omega),zQa (by omega) (by omega)]
  refine hg.st (j:=512+(128+k)) (by omega) _ _ (ad1 _ 2 (128+k)) λw5 wH dq=>hJ _ _ aH ⟨by omega,wH.ext λi hi=>?_,hf.trans dq λ_ h _=>h⟩
  simp only[sg2]
  split
  ·rw[decide_eq_decide];omega
  ·simp only[decide_eq_decide];omega
 have aH:k=48:=by have:=zQd d;omega
 subst aH
 clear hJ J d
 refine zQx 16 (λk t w'=>t=((224+k:Nat):Int)/\yKj w' w1.heap.size (sg3 (224+k))/\Fr (·=w1.heap.size) w2 w') ⟨rfl,hg.ext λi hi=>by unfold sg3 sg2;exact zZ5 (by omega),hf⟩ ?_
 rintro k J t w5 hk ⟨ht,hg,hf⟩ hJ
 obtain rfl:t=((224+k:Nat):Int):=ht
 refine Br.of (λd=>?_) (λd=>?_)
 ·have aH:k<16:=by have:=zQj d;omega
  refine⟨by omega,by omega,by omega,by omega,?_⟩
  rw[zQa (by omega) (by omega),i32_in (n:=((224+k:Nat):Int) - 224) (by omega) (by omega),i32_in (by omega) (by omega),zQa (by omega) (by omega)]
  refine hg.st (j:=512+(224+k)) (by omega) _ _ (ad1 _ 2 (224+k)) λw5 wH dq=>hJ _ _ aH ⟨by omega,wH.ext λi hi=>?_,hf.trans dq λ_ h _=>h⟩
  simp only[sg3]
  split
  ·rw[decide_eq_decide];omega
  ·simp only[decide_eq_decide];omega
 have aH:k=16:=by have:=zQd d;omega
 subst aH
 exact fin hg hf
theorem u149:prog.underlying 213=some (.array 3 212):=by kernel_rfl
theorem xZz{cs:Array Value}{p:Nat}(hp:p<3)(w:World):(Instr.index 213 (.agg cs) (.int .i64 (p:Int))).run prog w=.ok (.agg (cs.extract (p * 256) (p * 256+256))) w:=by
 have h1:(part 212 cs (p * 256)).run prog w=.ok (.agg (cs.extract (p * 256) (p * 256+256))) w:=by
  unfold part
  have a:(isAgg 212).run prog w=.ok true w:=Tryz.isAgg212 w
  have s:(sizeOf 212).run prog w=.ok 256 w:=Tryz.sizeOf212 w
  simp only[Sem.run_bind,a,Result.andThen_ok,if_true,s,Sem.run_pure]
 have s:(sizeOf 212).run prog w=.ok 256 w:=Tryz.sizeOf212 w
 unfold Instr.index
 simp only[asIntOf,Sem.run_bind,Sem.run_pure,Result.andThen_ok,zQn u149]
 have h0:(0:Int)<=(p:Int)/\(p:Int)<((3:Nat):Int):=by omega
 rw[if_pos h0]
 simp only[Sem.run_bind,s,Result.andThen_ok,zXn,h1]
theorem xYQ {w:World} {r:Nat} {s:ByteArray} (p:Int) (hb:w.heap[r]?=some (.cells #[.string s] 9)):Calls prog 195 #[.int .i64 p,.slice (some ⟨r,0,none⟩) 1 1] w λe w'=>e=.returned (.int .i64 (if 2048<s.size then 3 else if zQV p then 0 else 1))/\Pu w w':=by
 refine yKM _ ⟨some ⟨r,0,none⟩,1,1⟩ w _ ?_
 refine zQx 1 (λk t w'=>t=(k:Int)/\w'=w/\(0<k->¬2048<s.size)) ⟨rfl,rfl,λh=>by omega⟩ ?_
 rintro k J t w2 hk ⟨ht,hw,hs⟩ hJ
 obtain rfl:t=(k:Int):=ht
 obtain rfl:w2=w:=hw
 refine Br.of (λd=>?_) (λd=>?_)
 ·have fh:k=0:=by have:=zQj d;dsimp only at this;omega
  subst fh
  refine⟨_,rfl,by omega,by dsimp only;omega,s,cl hb 0,Br.of (λd1=>?_) (λd1=>?_)⟩
  ·exact⟨by rw[if_pos (show 2048<s.size by have:=zQj d1;omega)],Pu.refl _⟩
  ·rw[zQa (by omega) (by omega)]
   exact hJ _ _ (by omega) ⟨rfl,rfl,λ_=>by have:=zQd d1;omega⟩
 ·have hk1:k=1:=by have:=zQd d;dsimp only at this;omega
  subst hk1
  rw[if_neg (hs (by omega))]
  refine Br.of (λd1=>?_) (λd1=>Br.of (λd2=>?_) (λd2=>?_))
  ·have:=zQj d1;exact⟨by rw[if_neg];simp[zQV];omega,Pu.refl _⟩
  ·have:=zQj d2;exact⟨by rw[if_neg];simp[zQV];omega,Pu.refl _⟩
  ·have:=zQd d1;have:=zQd d2;exact⟨by rw[if_pos];simp[zQV];omega,Pu.refl _⟩
theorem on_sg{b:UInt8}{p:Nat}(hp:p<3):sg3 240 (p * 256+b.toNat)=!onB b (p:Int):=by
 have:=b.toNat_lt
 unfold sg3 onB
 rcases(by omega:p=0∨p=1∨p=2)with rfl|rfl|rfl
 ·rw[if_pos (by rfl),←decide_not];exact zZ5 (by omega)
 ·rw[if_neg (by omega),if_pos (by rfl)];simp;omega
 ·rw[if_neg (by omega),if_neg (by omega),←Bool.decide_and,←Bool.decide_or,←decide_not];exact zZ5 (by omega)
theorem u9:prog.underlying 9=some .string:=by kernel_rfl
theorem u37:prog.underlying 22=some (.slice 5):=by kernel_rfl
theorem u5:prog.underlying 5=some (.int .u8):=by kernel_rfl
theorem s148:zX8 prog 212=256:=by kernel_rfl
theorem zc148':zc prog 212=Array.replicate 256 (.int .i32 0):=by kernel_rfl
theorem zc148:(zc prog 212).size=256:=by rw[zc148'];simp
theorem yZZ(s:ByteArray)(hs:s.size<=140737488355328)(p:Int)(w:World):Calls prog 152 #[.string s,.int .i64 p] w λe w'=>
  e=.returned (.tuple #[.bool (decide (s.size<=2048) && zQV p && zXJ s.data.toList p),.int .i64 (if 2048<s.size then 3 else if zQV p then 0 else 1)])/\Pu w w':=by
 refine yWi _ _ w _ ?_
 refine alB λw1 ar aA=>(xYQ p aA).mono ?_
 rintro e w2 ⟨rfl,aq⟩
 refine⟨_,rfl,Br.of (λd=>?_) (λd=>?_)⟩
 ·have d:=zQw d
  refine⟨?_,ar.trans aq⟩
  have:(decide (s.size<=2048) && zQV p)=false:=by
   by_cases h:2048<s.size
   ·rw[decide_eq_false (by omega)];rfl
   ·cases h2:zQV p
    ·simp
    ·rw[if_neg h,h2]at d;exact absurd rfl d
  rw[this];rfl
 have d:=zQq d
 have rM:¬2048<s.size:=λh=>by rw[if_pos h]at d;omega
 have hpg:zQV p=true:=by
  cases h2:zQV p
  ·rw[if_neg rM,h2]at d;simp at d
  ·rfl
 obtain⟨q,rfl,hq⟩:∃q:Nat,p=q/\q<3:=⟨p.toNat,by simp[zQV]at hpg;omega,by simp[zQV]at hpg;omega⟩
 refine(xY0 w2).mono ?_
 rintro e w3 ⟨c,rfl,hc,hn,au⟩
 refine⟨c,hc,rfl,c.extract (q * 256) (q * 256+256),by simp[hc];omega,w3,xZz hq w3,?_⟩
 have hat:∀i,i<256->∃n:Int,(c.extract (q * 256) (q * 256+256))[i]?=some (.int .i32 n)/\decide (n<0)=sg3 240 (q * 256+i):=λi hi=>by
  obtain⟨n,h1,h2⟩:=hn (q * 256+i) (by omega)
  refine⟨n,?_,h2⟩
  rw[Array.getElem?_extract,if_pos (by omega)]
  exact h1
 refine alB λw4 aK cI=>zQg cI (by rw[s148];simp[hc];omega) (by rw[zc148];simp[hc];omega) ?_ λw5 bq dq ou=>?_
 ·rw[List.all_eq_true]
  intro v hv
  obtain⟨i,hi,rfl⟩:=List.getElem_of_mem hv
  have hi':i<(c.extract (q * 256) (q * 256+256)).size:=by rw[←Array.length_toList];exact hi
  obtain⟨n,h4,_⟩:=hat i (by rw[Array.size_extract]at hi';omega)
  rw[Array.getElem?_eq_getElem hi']at h4
  have h4:=Option.some.inj h4
  rw[Array.getElem_toList,h4];rfl
 have cx:Pu w3 w5:=aK.andNew dq λi hi=>by have hi:i=w3.heap.size:=hi;omega
 obtain⟨l,w6,hcv,bE,hl⟩:=yVf (P:=prog) u9 u37 u5 s (by omega) w5
 have gh:=bE.blk bq
 have hlen:=hl.len
 have hlen2:s.data.toList.length=s.size:=by simp
 have e2:(decide (s.size<=2048) && zQV (q:Int) && zXJ s.data.toList (q:Int))=zXJ s.data.toList (q:Int):=by rw[hpg,decide_eq_true (by omega)];rfl
 refine⟨l,w6,hcv,zQx s.data.toList.length (λk t w'=>t=(k:Int)/\w'=w6/\zXJ (s.data.toList.take k) (q:Int)=true) ⟨rfl,rfl,rfl⟩ ?_⟩
 rintro k J t w7 hk ⟨ht,hw7,htx⟩ hJ
 obtain rfl:t=(k:Int):=ht
 obtain rfl:w7=w6:=hw7
 have hpu:Pu w w7:=(((ar.trans aq).trans au).trans cx).trans bE
 refine Br.of (λd1=>?_) (λd1=>?_)
 ·have aH:k<s.data.toList.length:=by have:=zQj d1;omega
  obtain⟨b,hb⟩:=zQK aH
  obtain⟨a,ha,hi,hcell⟩:=hl.u8 hb
  have hbl:=b.toNat_lt
  obtain⟨n,hn1,xP⟩:=hat b.toNat (by omega)
  refine⟨a,ha,by omega,by omega,_,by simpa using hcell,by omega,by omega,n,?_,?_⟩
  ·rw[zQs,zQE gh,Nat.zero_add,zXn,Nat.mul_one];exact hn1
  rw[xP,on_sg hq]
  refine Br.of (λd2=>⟨?_,hpu⟩) (λd2=>?_)
  ·have d2:onB b (q:Int)=false:=by simpa using d2
   have:zXJ s.data.toList (q:Int)=false:=by
    unfold zXJ;rw[List.all_eq_false];exact⟨b,List.mem_of_getElem? hb,by rw[d2];simp⟩
   rw[e2,this,if_neg rM,hpg];rfl
  ·have d2:onB b (q:Int)=true:=by simpa using d2
   rw[zQa (by omega) (by omega)]
   exact hJ _ _ aH ⟨by omega,rfl,by unfold zXJ at *;rw[zJP _ hb,htx,d2];rfl⟩
 ·have aH:k=s.data.toList.length:=by have:=zQd d1;omega
  rw[aH,List.take_length]at htx
  exact⟨by rw[e2,htx,if_neg rM,hpg];rfl,hpu⟩
theorem xJo(s:ByteArray)(hs:s.size<=2048){p:Int}(hpg:zQV p=true)(w:World):Calls prog 120 #[.string s,.int .i64 p] w λe w'=>e=.returned (.bool (zXJ s.data.toList p))/\Pu w w':=by
 refine yVD _ _ w _ ((yZZ s (by omega) p w).mono ?_)
 rintro e w2 ⟨rfl,hp⟩
 have e1:(decide (s.size<=2048) && zQV p && zXJ s.data.toList p)=zXJ s.data.toList p:=by rw[hpg,decide_eq_true hs];rfl
 refine⟨_,_,rfl,?_⟩
 rw[e1,if_neg (by omega),hpg]
 exact Br.of (λd=>⟨by rw[d];rfl,hp⟩) (λd=>⟨by rw[d],hp⟩)
theorem on_c(b:UInt8)(p:Int)(w:World):Calls prog 168 #[.int .u8 ((b.toNat:Nat):Int),.int .i64 p] w λe w'=>e=.returned (.bool (onB b p))/\Pu w w':=by
 have hu:=b.toNat_lt
 refine yKY _ _ w _ (Br.of (λd=>⟨?_,Pu.refl w⟩) (λd=>Br.of (λd1=>⟨?_,Pu.refl w⟩) (λd1=>Br.of (λd2=>⟨?_,Pu.refl w⟩) (λd2=>Br.of (λd3=>⟨?_,Pu.refl w⟩) (λd3=>⟨?_,Pu.refl w⟩)))))
 ·rw[onB,if_pos (zQD d)];congr 2;exact zZ5 (by omega)
 ·rw[onB,if_neg (zQm d),if_pos (zQD d1)]
 ·have:=zQj d2
  rw[onB,if_neg (zQm d),if_neg (zQm d1),decide_eq_true (show b.toNat<176 by omega)];rfl
 ·have:=zQd d2;have:=zQj d3
  rw[onB,if_neg (zQm d),if_neg (zQm d1),decide_eq_false (show ¬b.toNat<176 by omega),decide_eq_true (show 224<=b.toNat by omega),Bool.false_or,Bool.true_and];congr 2;exact zZ5 (by omega)
 ·have:=zQd d2;have:=zQd d3
  rw[onB,if_neg (zQm d),if_neg (zQm d1),decide_eq_false (show ¬b.toNat<176 by omega),decide_eq_false (show ¬224<=b.toNat by omega)];rfl
theorem yQ3(s:ByteArray)(hs:s.size<=140737488355328)(p:Int)(w:World):Calls prog 136 #[.string s,.int .i64 p] w λe w'=>e=.returned (.bool (zXJ s.data.toList p))/\Pu w w':=by
 refine yV4 _ _ w _ ?_
 refine zQx s.size (λk t w'=>t=(k:Int)/\Pu w w'/\zXJ (s.data.toList.take k) p=true) ⟨rfl,Pu.refl _,rfl⟩ ?_
 rintro k J t w2 hk ⟨ht,hp,htx⟩ hJ
 obtain rfl:t=(k:Int):=ht
 refine Br.of (λd=>?_) (λd=>?_)
 ·have aH:k<s.size:=by have:=zQj d;omega
  obtain⟨b,aA,aN⟩:=zWp aH
  refine⟨b,by omega,by rw[zXn];exact aA,(on_c b p w2).mono ?_⟩
  rintro e w3 ⟨rfl,au⟩
  refine⟨_,rfl,Br.of (λd1=>⟨?_,hp.trans au⟩) (λd1=>?_)⟩
  ·have d1:onB b p=false:=by simpa using d1
   have:zXJ s.data.toList p=false:=by
    unfold zXJ;rw[List.all_eq_false];exact⟨b,List.mem_of_getElem? aN,by rw[d1];simp⟩
   rw[this]
  ·have d1:onB b p=true:=by simpa using d1
   rw[zQa (by omega) (by omega)]
   exact hJ _ _ aH ⟨by omega,hp.trans au,by unfold zXJ at *;rw[zJP _ aN,htx,d1];rfl⟩
 ·have aH:k=s.data.toList.length:=by have:=zQd d;simp;omega
  rw[aH,List.take_length]at htx
  exact⟨by rw[htx],hp⟩
end Go.Proofs.YtaeecpjhfmcliaaGreatDoor
/- Table: what a value becomes in a field. No condition. -/
namespace Go.Proofs.YtaeecpjhfmcliaaGreatDoor
open Go.Sh Go.RowKit Tryz
theorem yZV(ts:Array TypeId)(r:TypeId)(k:IntKind)(a b:Int)(w:World):(Builtin.min_ ts r #[.int k a,.int k b]).run prog w=.ok (.int k (min a b)) w:=by
 rw[run_min_int2];congr 2;omega
theorem zKO{v:Val}(h:zXh v=0):v.s.size<=2048/\okN v.kind v.n=true/\(v.kind=4∨v.s.size=0):=by
 rw[zZ1]at h
 by_cases h1:2048<v.s.size
 ·rw[if_pos h1]at h;omega
 ·rw[if_neg h1]at h
  cases h2:zZo v
  ·rw[h2]at h;simp at h
  ·unfold zZo at h2;simp at h2;exact⟨by omega,h2.1,h2.2.imp id λe=>by rw[e];rfl⟩
def xZh(n w:Int):List UInt8:=if w<(zJo n).length then List.replicate w.toNat 42 else List.replicate (w.toNat - (zJo n).length) 32 ++ zJo n
theorem str_c{n w:Int}(h1:-1000000000000000<=n/\n<=1000000000000000)(h2:1<=w/\w<=254)(W:World):Calls prog 121 #[.int .i64 n,.int .i64 w] W λe W'=>e=.returned (.tuple #[.string (bs (xZh n w)),.int .i64 0])/\Pu W W':=by
 refine yWC _ _ W _ ((xXk n W).mono ?_)
 rintro e W1 ⟨rfl,ar⟩
 refine⟨_,rfl,?_⟩
 rw[decide_eq_true h1.1,decide_eq_true h1.2]
 refine Br.f rfl (Br.of (λd=>absurd (zQj d) (by omega)) (λ_=>Br.of (λd=>absurd (zQj d) (by omega)) (λ_=>(dec_c (by omega) (by omega) W1).mono ?_)))
 rintro e W2 ⟨rfl,aq⟩
 have es:=zQ8 (zJo n)
 refine⟨_,rfl,Br.of (λd=>?_) (λd=>?_)⟩
 ·have d:=zQj d
  have e1:w=((w.toNat:Nat):Int):=by omega
  rw[show(Value.int .i64 w)=.int .i64 ((w.toNat:Nat):Int)by rw[←e1]]
  refine(zKC 42 w.toNat (by omega) W2).mono ?_
  rintro e W3 ⟨rfl,au⟩
  exact⟨_,rfl,by unfold xZh;rw[if_pos (by omega)],(ar.trans aq).trans au⟩
 ·have d:=zQd d
  rw[xX5,zQa (by omega) (by omega)]
  have e1:w - (((bs (zJo n)).size:Nat):Int)=((w.toNat - (zJo n).length:Nat):Int):=by omega
  rw[e1]
  refine(zKC 32 _ (by omega) W2).mono ?_
  rintro e W3 ⟨rfl,au⟩
  refine⟨_,rfl,?_,?_,(ar.trans aq).trans au⟩
  ·rw[zQ8,zQ8];simp only[List.length_replicate];omega
  ·rw[zJ4];unfold xZh;rw[if_neg (by omega)]
theorem xZv(s:ByteArray)(b:UInt8)(w:World):Calls prog 122 #[.string s,.string ⟨#[b]⟩] w λe w'=>e=.returned (.bool (decide (s.data.toList.head?=some b)))/\Pu w w':=
 (Any.strings_HasPrefix Tryz.lays99 s ⟨#[b]⟩ w).mono λe w' ⟨h1,h2⟩=>⟨by
  rw[h1];congr 2
  show Lib.hasPrefix s.data.toList [b]=_
  unfold Lib.hasPrefix
  cases s.data.toList with
  | nil=>rfl
  | cons a l=>
   rw[List.isPrefixOf_cons_cons,List.isPrefixOf_nil_left,Bool.and_true]
   by_cases h:b=a
   ·simp[h]
   ·simp[h,Ne.symm h],h2 ▸ Pu.refl _⟩
theorem xQU(n:Int):∃b l,zJo n=b :: l/\b ≠ 42:=by
 by_cases h:n<0
 ·exact⟨45,_,zVP h,by decide⟩
 ·have hn:zJo n=zZH n.natAbs:=by unfold zJo;rw[if_neg h]
  cases hl:zZH n.natAbs with
  | nil=>have:=yXr n.natAbs;rw[hl]at this;simp at this
  | cons b l=>
   refine⟨b,l,by rw[hn,hl],λe=>?_⟩
   have:=zKN n.natAbs b (by rw[hl];simp)
   rw[e]at this;simp at this
theorem yYr{n w:Int}(h:1<=w):decide ((xZh n w).head?=some 42)=decide (w<(zJo n).length):=by
 obtain⟨b,l,hd,hb⟩:=xQU n
 unfold xZh
 by_cases h1:w<(zJo n).length
 ·rw[if_pos h1,decide_eq_true h1]
  obtain⟨k,hk⟩:∃k,w.toNat=k+1:=⟨w.toNat - 1,by omega⟩
  rw[hk,List.replicate_succ];simp
 ·rw[if_neg h1,decide_eq_false h1]
  cases hm:w.toNat - (zJo n).length with
  | zero=>rw[hd];simp[hb]
  | succ m=>simp[List.replicate_succ]
theorem retV {w:World} {r:Nat} {c:Array Value} (v:Val) (k:Int) {R:Rt} (hb:w.heap[r]?=some (.cells c 73)) (hc:c.size=3) (hR:∀w',Fr (·=r) w w'->R (.returned (.tuple #[zJ5 v,.int .i64 k])) w') :
  stA prog 73 (⟨r,0,none⟩:Addr) #[.int .i64 v.kind,.int .i64 v.n,.string v.s] w λw'=>∃n0:Int,w'.cell? ((⟨r,0,none⟩:Addr).add 0)=some (.int .i64 n0)/\∃n1:Int,w'.cell? ((⟨r,0,none⟩:Addr).add 1)=some (.int .i64 n1)/\
   ∃s2:ByteArray,w'.cell? ((⟨r,0,none⟩:Addr).add 2)=some (.string s2)/\R (.returned (.tuple #[.agg #[.int .i64 n0,.int .i64 n1,.string s2],.int .i64 k])) w':=
 zQg hb s25.symm (by rw[hc];rfl) rfl λw' hb' hf _=>⟨_,cl hb' 0,_,cl hb' 1,_,cl hb' 2,hR w' hf⟩
theorem zJv {f:Fld} {p:Int} {v:Val} (h:(zQo f && zQV p)=false):zZO f p v=(noV,1):=by unfold zZO;rw[h];rfl
theorem zKr {f:Fld} {p:Int} {v:Val} (h:(zQo f && zQV p)=true) (h2:zXh v ≠ 0):zZO f p v=(noV,zXh v):=by unfold zZO;rw[h,if_pos rfl,if_pos h2]
theorem zJO {f:Fld} {p:Int} {v:Val} (h:(zQo f && zQV p)=true) (h2:zXh v=0):zZO f p v=zQQ f p v:=by unfold zZO;rw[h,if_pos rfl,if_neg (by omega)]
theorem zVS{f:Fld}(h:zQo f=true)(hk:f.kind=4):1<=f.width/\f.width<=254:=by
 unfold zQo zWM at h;rw[hk]at h;simp at h;exact h.2
theorem xYw{f:Fld}(h:zQo f=true)(hk:f.kind=2):1<=f.width/\f.width<=15:=by
 unfold zQo zWM at h;rw[hk]at h;simp at h;exact h.2
theorem yKa(l:List UInt8)(w:Int)(n:Nat)(hn:l.length=n)(hw:0<=w):l.take (min (n:Int) w).toNat=l.take w.toNat:=by
 by_cases h:(n:Int)<=w
 ·rw[show(min (n:Int) w).toNat=n by omega,List.take_of_length_le (by omega),List.take_of_length_le (by omega)]
 ·rw[show min (n:Int) w=w by omega]
theorem yX5(l:List UInt8):(zZs l).length<=l.length:=by
 unfold zZs
 have h:=List.IsSuffix.length_le (List.dropWhile_suffix (· == (32:UInt8)) (l:=l.reverse))
 simpa using h
theorem fit_c(f:Fld)(p:Int)(v:Val)(hs:f.name.size<=140737488355328)(w:World):Calls prog 83 #[zYY f,.int .i64 p,zJ5 v] w λe w'=>
  e=.returned (.tuple #[zJ5 (zZO f p v).1,.int .i64 (zZO f p v).2])/\Pu w w':=by
 refine xX8 _ _ _ _ _ _ _ _ w _ ?_
 refine alB λw1 ar aA=>alB λw2 aq aN=>alB λw3 au bo=>?_
 have z1:w1.heap.size<=w2.heap.size:=aq.size
 have z0:w.heap.size<=w1.heap.size:=ar.size
 have l1:w.heap.size<w1.heap.size:=zQy aA
 have l2:w1.heap.size<w2.heap.size:=zQy aN
 have aV:Pu w w3:=(ar.trans aq).trans au
 -- a value and a code are handed back
 have out:∀{wz:World} (v':Val) (k:Int) {c:Array Value},Pu w wz->wz.heap[w2.heap.size]?=some (.cells c 73)->c.size=3->zZO f p v=(v',k)->
   stA prog 73 (⟨w2.heap.size,0,none⟩:Addr) #[.int .i64 v'.kind,.int .i64 v'.n,.string v'.s] wz λw'=>∃n0:Int,w'.cell? ((⟨w2.heap.size,0,none⟩:Addr).add 0)=some (.int .i64 n0)/\∃n1:Int,w'.cell? ((⟨w2.heap.size,0,none⟩:Addr).add 1)=some (.int .i64 n1)/\
    ∃s2:ByteArray,w'.cell? ((⟨w2.heap.size,0,none⟩:Addr).add 2)=some (.string s2)/\(Ending.returned (.tuple #[.agg #[.int .i64 n0,.int .i64 n1,.string s2],.int .i64 k])=.returned (.tuple #[zJ5 (zZO f p v).1,.int .i64 (zZO f p v).2])/\Pu w w'):=λ{wz} v' k {c} h1 h2 h3 h4=>
  retV (R:=λe w'=>e=.returned (.tuple #[zJ5 (zZO f p v).1,.int .i64 (zZO f p v).2])/\Pu w w') v' k h2 h3 λw' hf=>⟨by rw[h4],h1.andNew hf λi hi=>by have hi:i=w2.heap.size:=hi;omega⟩
 have b1:∀{wz},Pu w3 wz->wz.heap[w.heap.size]?=some (.cells #[.string f.name,.int .i64 f.kind,.int .i64 f.width,.bool f.null] 129):=λh=>h.blk (au.blk (aq.blk aA))
 have b2:∀{wz},Pu w3 wz->wz.heap[w1.heap.size]?=some (.cells #[.int .i64 v.kind,.int .i64 v.n,.string v.s] 73):=λh=>h.blk (au.blk aN)
 have b3:∀{wz},Pu w3 wz->wz.heap[w2.heap.size]?=some (.cells #[.int .i64 0,.int .i64 0,.string ⟨#[]⟩] 73):=λh=>h.blk bo
 have q0:=b1 (Pu.refl w3)
 refine⟨_,cl q0 0,_,cl q0 1,_,cl q0 2,_,cl q0 3,(yZc f hs w3).mono ?_⟩
 rintro e w4 ⟨rfl,aK⟩
 refine⟨_,rfl,Br.of (λd=>out noV 1 (aV.trans aK) (b3 aK) rfl (zJv (by simp at d;simp[d]))) (λd=>(yKr p w4).mono ?_)⟩
 have hfB:zQo f=true:=by simpa using d
 rintro e w5 ⟨rfl,aT⟩
 have cx:=aK.trans aT
 refine⟨_,rfl,Br.of (λd=>out noV 1 (aV.trans cx) (b3 cx) rfl (zJv (by simp at d;simp[d]))) (λd=>?_)⟩
 have hpB:zQV p=true:=by simpa using d
 have hB:(zQo f && zQV p)=true:=by rw[hfB,hpB];rfl
 refine⟨_,cl (b2 cx) 0,_,cl (b2 cx) 1,_,cl (b2 cx) 2,(xQ6 v w5).mono ?_⟩
 rintro e w6 ⟨rfl,bE⟩
 have cD:=cx.trans bE
 have eJ:=aV.trans cD
 refine⟨_,rfl,Br.of (λd=>out noV (zXh v) eJ (b3 cD) rfl (zKr hB (zQw d))) (λd=>?_)⟩
 have hv:=zQq d
 obtain⟨hvs,hvn,hv4⟩:=zKO hv
 have hF:=zJO (f:=f) (p:=p) hB hv
 refine⟨_,cl0 (b2 cD),Br.of (λd0=>⟨_,cl (b1 cD) 3,Br.of (λd1=>out noV 7 eJ (b3 cD) rfl ?_) (λd1=>⟨_,cl (b2 cD) 0,_,cl (b2 cD) 1,_,cl (b2 cD) 2,out v 0 eJ (b3 cD) rfl ?_⟩)⟩) (λd0=>?_)⟩
 ·rw[hF];unfold zQQ;rw[if_pos (zQD d0),show f.null=false by simpa using d1];rfl
 ·rw[hF];unfold zQQ;rw[if_pos (zQD d0),show f.null=true by simpa using d1];rfl
 have d0:=zQm d0
 refine zQc λw7 cy hh7=>⟨λu=>Pu w7 u,Pu.refl _,v.kind,λu hu=>cl0 (b2 ((cD.trans cy).trans hu)),f.name,λu hu=>cl (b1 ((cD.trans cy).trans hu)) 0,f.kind,λu hu=>cl (b1 ((cD.trans cy).trans hu)) 1,f.width,λu hu=>cl (b1 ((cD.trans cy).trans hu)) 2,f.null,λu hu=>cl (b1 ((cD.trans cy).trans hu)) 3,(xZc f w7).mono ?_⟩
 rintro e w8 ⟨rfl,bW⟩
 have ik:=(cD.trans cy).trans bW
 have dP:=aV.trans ik
 refine⟨_,_,_,rfl,bW,Br.of (λd1=>out noV 6 dP (b3 ik) rfl ?_) (λd1=>⟨_,cl (b1 ik) 1,?_⟩)⟩
 ·rw[hF];unfold zQQ;rw[if_neg d0,if_pos (zQw d1)]
 have d1:=zQq d1
 have qo:zZO f p v=if f.kind=4 then(if zXJ (zZs (v.s.data.toList.take f.width.toNat)) p then(⟨4,0,bs (zZs (v.s.data.toList.take f.width.toNat))⟩,0)else(noV,10))else if zQO f p v then(v,0)else(noV,10):=by
  rw[hF];unfold zQQ;rw[if_neg d0,if_neg (by rw[d1];simp)]
 have mN:¬zXh v ≠ 0:=by omega
 -- what a value is that stays
 have stay:∀{wz:World},Pu w3 wz->zZO f p v=(v,0)->∃n0:Int,wz.cell? ((⟨w1.heap.size,0,none⟩:Addr).add 0)=some (.int .i64 n0)/\∃n1:Int,wz.cell? ((⟨w1.heap.size,0,none⟩:Addr).add 1)=some (.int .i64 n1)/\∃s2:ByteArray,wz.cell? ((⟨w1.heap.size,0,none⟩:Addr).add 2)=some (.string s2)/\
   stA prog 73 (⟨w2.heap.size,0,none⟩:Addr) #[.int .i64 n0,.int .i64 n1,.string s2] wz λw'=>∃n0:Int,w'.cell? ((⟨w2.heap.size,0,none⟩:Addr).add 0)=some (.int .i64 n0)/\∃n1:Int,w'.cell? ((⟨w2.heap.size,0,none⟩:Addr).add 1)=some (.int .i64 n1)/\
    ∃s2:ByteArray,w'.cell? ((⟨w2.heap.size,0,none⟩:Addr).add 2)=some (.string s2)/\(Ending.returned (.tuple #[.agg #[.int .i64 n0,.int .i64 n1,.string s2],.int .i64 0])=.returned (.tuple #[zJ5 (zZO f p v).1,.int .i64 (zZO f p v).2])/\Pu w w'):=λ{wz} h h2=>
  ⟨_,cl (b2 h) 0,_,cl (b2 h) 1,_,cl (b2 h) 2,out v 0 (aV.trans h) (b3 h) rfl h2⟩
 refine Br.of (λd2=>?_) (λd2=>Br.of (λd3=>?_) (λd3=>Br.of (λd4=>?_) (λd4=>?_)))
 ·have d2:=zQD d2
  obtain⟨wl,wh⟩:=zVS hfB d2
  rw[if_pos d2]at qo
  refine⟨_,cl (b2 ik) 2,_,cl (b2 ik) 2,_,cl (b1 ik) 2,_,w8,yZV _ _ _ _ _ _,by omega,by omega,by omega,(zYy _ (by have:=zQ7 v.s 0 (min (v.s.size:Int) f.width).toNat;have:=zQ2 (v.s.extract 0 (min (v.s.size:Int) f.width).toNat);simp at *;omega) w8).mono ?_⟩
  rintro e w9 ⟨rfl,cE⟩
  have et:(v.s.extract 0 (min (v.s.size:Int) f.width).toNat).data.toList=v.s.data.toList.take f.width.toNat:=by
   rw[zQ7,List.drop_zero];exact yKa _ _ _ (by simp) (by omega)
  rw[et]
  have rA:=ik.trans cE
  have hkind:v.kind=4:=by rw[d1];unfold zXk;rw[if_neg (by omega)];exact d2
  have rN:v.n=0:=by rw[hkind]at hvn;simpa[okN] using hvn
  have hbl:(bs (zZs (v.s.data.toList.take f.width.toNat))).size<=2048:=by
   rw[zQ8];have:=yX5 (v.s.data.toList.take f.width.toNat);have:=List.length_take_le f.width.toNat v.s.data.toList;have:=List.length_take_le' f.width.toNat v.s.data.toList;rw[zQ2]at this;omega
  generalize hg:zZs (v.s.data.toList.take f.width.toNat)=B at *
  refine⟨_,rfl,?_⟩
  rw[zZc,zQs,Nat.zero_add]
  refine zQu (b2 rA) (show 2<3 by omega) λaP wI iA=>?_
  have mO:Fr (·=w1.heap.size) w9 aP:=by rw[wI];exact Fr.cell w9 _ 2 _
  have pw:aP.heap[w1.heap.size]?=some (.cells #[.int .i64 v.kind,.int .i64 v.n,.string (bs B)] 73):=iA
  have vK:Pu w aP:=(aV.trans rA).andNew mO λi hi=>by have hi:i=w1.heap.size:=hi;omega
  have py:=mO.blk (b3 rA) (show ¬w2.heap.size=w1.heap.size by omega)
  refine⟨_,cl pw 2,(xJo _ hbl hpB aP).mono ?_⟩
  rintro e aU ⟨rfl,eG⟩
  rw[zQN]
  refine⟨_,rfl,Br.of (λd3=>out noV 10 (vK.trans eG) (eG.blk py) rfl ?_) (λd3=>⟨_,cl (eG.blk pw) 0,_,cl (eG.blk pw) 1,_,cl (eG.blk pw) 2,?_⟩)⟩
  ·rw[qo,show zXJ B p=false by simpa using d3];rfl
  ·rw[hkind,rN]
   exact out ⟨4,0,bs B⟩ 0 (vK.trans eG) (eG.blk py) rfl (by rw[qo,show zXJ B p=true by simpa using d3];rfl)
 ·have d2:=zQm d2
  have d3:=zQD d3
  obtain⟨wl,wh⟩:=xYw hfB d3
  have hkind:v.kind=2:=by rw[d1];unfold zXk;rw[if_neg (by omega)];exact d3
  have hn:-1000000000000000<=v.n/\v.n<=1000000000000000:=by rw[hkind]at hvn;simpa[okN] using hvn
  have hfit:zQO f p v=decide (((zJo v.n).length:Int)<=f.width):=by
   unfold zQO;rw[if_neg mN,if_neg d0,if_neg (by omega),if_neg (by rw[hkind,d3];simp),if_pos d3]
  rw[if_neg d2,hfit]at qo
  refine⟨_,cl (b2 ik) 1,_,cl (b1 ik) 2,(str_c hn ⟨wl,by omega⟩ w8).mono ?_⟩
  rintro e w9 ⟨rfl,cE⟩
  have rA:=ik.trans cE
  refine⟨_,_,rfl,Br.of (λd4=>absurd rfl (zQw d4)) (λ_=>(xZv _ 42 w9).mono ?_)⟩
  rintro e aP ⟨rfl,dr⟩
  have jN:=rA.trans dr
  refine⟨_,rfl,?_⟩
  rw[zQN,yYr wl]
  refine Br.of (λd4=>out noV 10 (aV.trans jN) (b3 jN) rfl ?_) (λd4=>stay jN ?_)
  ·rw[qo,decide_eq_false (by have:=zQj d4;omega)];rfl
  ·rw[qo,decide_eq_true (by have:=zQd d4;omega)];rfl
 ·have d2:=zQm d2
  have d4:=zQD d4
  have hkind:v.kind=2:=by rw[d1];unfold zXk;rw[if_pos d4]
  have hfit:zQO f p v=zVK v.n:=by
   unfold zQO;rw[if_neg mN,if_neg d0,if_pos d4,hkind];rfl
  rw[if_neg d2,hfit]at qo
  refine⟨_,cl (b2 ik) 1,Br.of (λd5=>out noV 10 dP (b3 ik) rfl ?_) (λd5=>⟨_,cl (b2 ik) 1,Br.of (λd6=>out noV 10 dP (b3 ik) rfl ?_) (λd6=>stay ik ?_)⟩)⟩
  ·rw[qo,show zVK v.n=false by unfold zVK;rw[decide_eq_false (by have:=zQj d5;omega)];rfl];rfl
  ·rw[qo,show zVK v.n=false by unfold zVK;rw[decide_eq_false (show ¬v.n<=99999999 by have:=zQj d6;omega)];simp];rfl
  ·rw[qo,show zVK v.n=true by unfold zVK;rw[decide_eq_true (show 0<=v.n by have:=zQd d5;omega),decide_eq_true (show v.n<=99999999 by have:=zQd d6;omega)];rfl];rfl
 ·have d2:=zQm d2
  have d3:=zQm d3
  have d4:=zQm d4
  have hfit:zQO f p v=true:=by
   unfold zQO;rw[if_neg mN,if_neg d0,if_neg d4,if_neg (by rw[d1];unfold zXk;rw[if_neg d4];simp),if_neg d3,if_neg d2]
  rw[if_neg d2,hfit]at qo
  exact stay ik qo
end Go.Proofs.YtaeecpjhfmcliaaGreatDoor
