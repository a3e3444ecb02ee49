import Derived.Test.YtaeecpjhfmcliaaGreatDoorShNine
import Derived.Test.YtaeecpjhfmcliaaGreatDoorShSeventeen
import Derived.Test.YtaeecpjhfmcliaaGreatDoorLgPrA
import Derived.Test.YtaeecpjhfmcliaaGreatDoorShTwentyTwo
import Derived.Test.YtaeecpjhfmcliaaGreatDoorLtShelf
import Derived.Test.YtaeecpjhfmcliaaGreatDoorShThirteen
/- Table: data, and what is computed on it, in plain words. No condition. -/
set_option linter.unusedVariables false
set_option linter.unusedSimpArgs false
namespace Go.Proofs.YtaeecpjhfmcliaaGreatDoor
open Go.Sh Go.RowKit Tryz
theorem zXU {α:Type} {l:List α} {k:Nat} {x:α} (h:l[k]?=some x):l.drop k=x :: l.drop (k+1):=by
 obtain⟨h1,h2⟩:=List.getElem?_eq_some_iff.1 h
 rw[List.drop_eq_getElem_cons h1,h2]
theorem zQB {α:Type} {l:List α} {k:Nat} {x:α} (h:l[k]?=some x):l.take (k+1)=l.take k ++ [x]:=by
 rw[List.take_add_one,h];rfl
theorem zQM{α:Type}{l:List α}{k:Nat}(h:k<l.length):∃x,l[k]?=some x:=⟨_,List.getElem?_eq_getElem h⟩
theorem yYd(a:Addr):a.add 0=a:=by simp[Addr.add]
theorem zX7(s t:ByteArray):(s.toList == t.toList)=decide (s=t):=by rw[←beq_toListBytes,zZ6]
theorem zQU{s t:ByteArray}(h:s.data.toList=t.data.toList):s=t:=by
 obtain⟨⟨a⟩⟩:=s;obtain⟨⟨b⟩⟩:=t;simp at h;rw[h]
theorem zQ3(s:ByteArray):s.data.toList.length=s.size:=by simp
abbrev bs(l:List UInt8):ByteArray:=⟨l.toArray⟩
theorem zQN(l:List UInt8):(bs l).data.toList=l:=by simp[bs]
theorem yJG(s:ByteArray):bs s.data.toList=s:=by obtain⟨⟨a⟩⟩:=s;rfl
theorem zQ8(l:List UInt8):(bs l).size=l.length:=by simp[bs,ByteArray.size]
structure Fld where
 name:ByteArray
 kind:Int
 width:Int
 null:Bool
deriving DecidableEq, Inhabited
structure Val where
 kind:Int
 n:Int
 s:ByteArray
deriving DecidableEq, Inhabited
structure Rec where
 gone:Bool
 v:List Val
deriving DecidableEq, Inhabited
structure Tbl where
 page:Int
 fields:List Fld
 recs:List Rec
deriving DecidableEq, Inhabited
def zZL(n:Int):Prop:=-9223372036854775808<=n/\n<=9223372036854775807
instance:Enc Bool where
 sz:=1
 rd _ vs b:=vs=[.bool b]
 len h:=by rw[h];rfl
 pu _ h:=h
abbrev zVT(f:Fld):List Value:=[.string f.name,.int .i64 f.kind,.int .i64 f.width,.bool f.null]
abbrev zVA(v:Val):List Value:=[.int .i64 v.kind,.int .i64 v.n,.string v.s]
instance:Enc Fld where
 sz:=4
 rd _ vs f:=vs=zVT f/\zZL f.kind/\zZL f.width
 len h:=by rw[h.1];rfl
 pu _ h:=h
instance:Lim Fld:=⟨λf=>Lim.ok f.name⟩
instance:Enc Val where
 sz:=3
 rd _ vs v:=vs=zVA v/\zZL v.kind/\zZL v.n
 len h:=by rw[h.1];rfl
 pu _ h:=h
instance:Lim Val:=⟨λv=>Lim.ok v.s⟩
instance:Enc Rec where
 sz:=2
 rd w vs r:=∃s:SV,vs=[.bool r.gone,.slice s.a s.len s.cap]/\zX6 w s r.v
 len h:=by obtain⟨s,rfl,_⟩:=h;rfl
 pu hp h:=let ⟨s,h1,h2⟩:=h;⟨s,h1,h2.pu hp⟩
instance:Lim Rec:=⟨λr=>Lim.ok r.v⟩
structure zXz(w:World)(t:Tbl)(f r:SV):Prop where
 page:zZL t.page
 fields:zX6 w f t.fields
 recs:zX6 w r t.recs
theorem zXz.pu{w w':World}{t:Tbl}{f r:SV}(h:zXz w t f r)(hp:Pu w w'):zXz w' t f r:=⟨h.page,h.fields.pu hp,h.recs.pu hp⟩
instance:Enc Tbl where
 sz:=3
 rd w vs t:=∃f r:SV,vs=[.int .i64 t.page,.slice f.a f.len f.cap,.slice r.a r.len r.cap]/\zXz w t f r
 len h:=by obtain⟨f,r,rfl,_⟩:=h;rfl
 pu hp h:=let ⟨f,r,h1,h2⟩:=h;⟨f,r,h1,h2.pu hp⟩
instance:Lim Tbl:=⟨λt=>Lim.ok t.fields/\Lim.ok t.recs⟩
theorem zJd {w:World} {s:SV} {l:List Fld} (h:zX6 w s l) {i:Nat} {f:Fld} (hx:l[i]?=some f):∃a,s.a=some a/\i<s.len/\zZL f.kind/\zZL f.width/\
  w.cell? (a.add (i * 4))=some (.string f.name)/\w.cell? ((a.add (i * 4)).add 0)=some (.string f.name)/\w.cell? ((a.add (i * 4)).add 1)=some (.int .i64 f.kind)/\w.cell? ((a.add (i * 4)).add 2)=some (.int .i64 f.width)/\w.cell? ((a.add (i * 4)).add 3)=some (.bool f.null):=by
 obtain⟨a,ha,vs,⟨rfl,h1⟩,h2⟩:=h.get i f hx
 have hi:i<l.length:=(List.getElem?_eq_some_iff.1 hx).1
 have h2:zJq w (a.add (i * 4)) (zVT f):=h2
 exact⟨a,ha,by rw[h.len];exact hi,h1.1,h1.2,by rw[←yYd (a.add _)];exact h2 0 _ rfl,h2 0 _ rfl,h2 1 _ rfl,h2 2 _ rfl,h2 3 _ rfl⟩
theorem yVs {w:World} {s:SV} {l:List Val} (h:zX6 w s l) {i:Nat} {v:Val} (hx:l[i]?=some v):∃a,s.a=some a/\i<s.len/\zZL v.kind/\zZL v.n/\
  w.cell? ((a.add (i * 3)).add 0)=some (.int .i64 v.kind)/\w.cell? ((a.add (i * 3)).add 1)=some (.int .i64 v.n)/\w.cell? ((a.add (i * 3)).add 2)=some (.string v.s):=by
 obtain⟨a,ha,vs,⟨rfl,h1⟩,h2⟩:=h.get i v hx
 have hi:i<l.length:=(List.getElem?_eq_some_iff.1 hx).1
 have h2:zJq w (a.add (i * 3)) (zVA v):=h2
 exact⟨a,ha,by rw[h.len];exact hi,h1.1,h1.2,h2 0 _ rfl,h2 1 _ rfl,h2 2 _ rfl⟩
theorem zWi {w:World} {s:SV} {l:List Rec} (h:zX6 w s l) {i:Nat} {r:Rec} (hx:l[i]?=some r):∃a t,s.a=some a/\i<s.len/\zX6 w t r.v/\
  w.cell? ((a.add (i * 2)).add 0)=some (.bool r.gone)/\w.cell? ((a.add (i * 2)).add 1)=some (.slice t.a t.len t.cap):=by
 obtain⟨a,ha,vs,⟨t,rfl,h1⟩,h2⟩:=h.get i r hx
 have hi:i<l.length:=(List.getElem?_eq_some_iff.1 hx).1
 have h2:zJq w (a.add (i * 2)) [.bool r.gone,.slice t.a t.len t.cap]:=h2
 exact⟨a,t,ha,by rw[h.len];exact hi,h1,h2 0 _ rfl,h2 1 _ rfl⟩
def noV:Val:=⟨0,0,⟨#[]⟩⟩
def zWS(b:UInt8):Bool:=decide (65<=b.toNat) && decide (b.toNat<=90)
def zZm(b:UInt8):Bool:=decide (48<=b.toNat) && decide (b.toNat<=57)
def zZx(s:ByteArray):Bool:=decide (1<=s.size) && decide (s.size<=10) && s.data.toList.all (λb=>zWS b || zZm b || decide (b.toNat=95)) && (s.data.toList.take 1).all zWS
def zW9(k w:Int):Bool:=if k=1 then decide (w=1)else if k=2 then decide (1<=w) && decide (w<=15)else if k=3 then decide (w=8)else if k=4 then decide (1<=w) && decide (w<=254)else if k=5 then decide (w=8)else false
def zQn(f:Fld):Bool:=zZx f.name && zW9 f.kind f.width
def zQW(p:Int):Bool:=decide (0<=p) && decide (p<=2)
def onB(b:UInt8)(p:Int):Bool:=if p=0 then decide (b.toNat<128)else if p=1 then true else decide (b.toNat<176) || (decide (224<=b.toNat) && decide (b.toNat<240))
def zXO(l:List UInt8)(p:Int):Bool:=l.all λb=>onB b p
def zXo(l:List Fld):Nat:=((l.filter (·.null)).length+7) / 8
def zXK(l:List Fld):Int:=1+(zXo l:Int)+(l.map (·.width)).sum
def zQT(l:List Fld):Int:=if l=[]∨l.all zQn=false then 1 else if ¬(l.map (·.name)).Nodup then 5 else if 16<l.length∨2000<zXK l then 3 else 0
def okN(k n:Int):Bool:=if k=0 then decide (n=0)else if k=1 then decide (n=0) || decide (n=1)else if k=2 then decide (-1000000000000000<=n) && decide (n<=1000000000000000)else if k=3 then decide (0<=n) && decide (n<=3652059)else if k=4 then decide (n=0)else false
def zXi(v:Val):Int:=if 2048<v.s.size then 3 else if okN v.kind v.n && (decide (v.kind=4) || decide (v.s.size=0))then 0 else 1
def zZM(n:Nat):List UInt8:=if h:n<10 then [UInt8.ofNat (48+n)]else zZM (n / 10) ++ [UInt8.ofNat (48+n % 10)]
 termination_by n
 decreasing_by omega
def zJh(n:Int):List UInt8:=if n<0 then 45 :: zZM n.natAbs else zZM n.natAbs
def zZw(l:List UInt8):List UInt8:=(l.reverse.dropWhile (· == 32)).reverse
def zVG(n:Int):Bool:=decide (0<=n) && decide (n<=99999999)
def zQO(f:Fld)(p:Int)(v:Val):Bool:=
 if zXi v ≠ 0 then false else if v.kind=0 then f.null else if f.kind=5 then decide (v.kind=2) && zVG v.n else if v.kind ≠ f.kind then false
 else if f.kind=2 then decide (((zJh v.n).length:Int)<=f.width)else if f.kind=4 then decide ((v.s.size:Int)<=f.width) && decide (zZw v.s.data.toList=v.s.data.toList) && zXO v.s.data.toList p else true
def zXp(f:Fld):Val:=if f.kind=5 then⟨2,0,⟨#[]⟩⟩else⟨f.kind,0,⟨#[]⟩⟩
def zQQ(f:Fld)(p:Int)(v:Val):Val × Int:=
 if v.kind=0 then(if f.null then(v,0)else(noV,7))else if v.kind ≠ (zXp f).kind then(noV,6)
 else if f.kind=4 then(if zXO (zZw (v.s.data.toList.take f.width.toNat)) p then(⟨4,0,bs (zZw (v.s.data.toList.take f.width.toNat))⟩,0)else(noV,10))
 else if zQO f p v then(v,0)else(noV,10)
def zZO(f:Fld)(p:Int)(v:Val):Val × Int:=if zQn f && zQW p then(if zXi v ≠ 0 then(noV,zXi v)else zQQ f p v)else(noV,1)
def zQ0(l:List Fld)(p:Int)(r:Rec):Int:=if r.v.length ≠ l.length then 10 else if (l.zip r.v).all (λx=>zQO x.1 p x.2)then 0 else 1
def zXu(l:List Fld)(p:Int):List Rec->Int
 | []=>0
 | r :: rs=>if zQ0 l p r ≠ 0 then zQ0 l p r else zXu l p rs
def zQh(t:Tbl):Int:=if zQW t.page then(if zQT t.fields ≠ 0 then zQT t.fields else if 300<t.recs.length then 3 else zXu t.fields t.page t.recs)else 1
end Go.Proofs.YtaeecpjhfmcliaaGreatDoor
/- Table: values, names, fields, pages: which are right. No condition. -/
set_option maxRecDepth 100000
namespace Go.Proofs.YtaeecpjhfmcliaaGreatDoor
open Go.Sh Go.RowKit Tryz
theorem zZa(s:ByteArray):(s.toList == (⟨#[]⟩:ByteArray).toList)=decide (s.size=0):=by
 rw[←beq_toListBytes,zZ6]
 by_cases h:s.size=0
 ·have:s=⟨#[]⟩:=by
   obtain⟨⟨l⟩⟩:=s
   cases l with
   | nil=>rfl
   | cons a l=>simp[ByteArray.size]at h
  simp[this]
  rfl
 ·have:s ≠ ⟨#[]⟩:=λe=>h (by rw[e];rfl)
  simp[this,h]
theorem alB {w:World} {c:Array Value} {e:TypeId} {K:Nat->World->Prop} (h:∀w1,Pu w w1->w1.heap[w.heap.size]?=some (.cells c e)->K w.heap.size w1):alE (.cells c e) w K:=
 h _ (Pu.alloc w _) (zZg w _)
theorem cl {w:World} {r:Nat} {c:Array Value} {e:TypeId} {f:Nat × Nat} (h:w.heap[r]?=some (.cells c e f)) (o:Nat):w.cell? ((⟨r,0,none⟩:Addr).add o)=c[o]?:=by rw[zQr,zQF h,Nat.zero_add]
theorem cl0 {w:World} {r:Nat} {c:Array Value} {e:TypeId} {f:Nat × Nat} (h:w.heap[r]?=some (.cells c e f)):w.cell? (⟨r,0,none⟩:Addr)=c[0]?:=zQF h 0
theorem zQE {a b:Int} (h:(a == b)=true):a=b:=by simpa using h
theorem zQm {a b:Int} (h:(a == b)=false):a ≠ b:=by simpa using h
theorem zQ1 {a b:Int} (h:(a != b)=true):a ≠ b:=by simpa using h
theorem zQs {a b:Int} (h:(a != b)=false):a=b:=by simpa using h
theorem xXt(n:Int)(w:World):Calls prog 153 #[.int .i64 n] w λe w'=>e=.returned (.bool (decide (-1000000000000000<=n) && decide (n<=1000000000000000)))/\Pu w w':=by
 refine yWJ _ w _ (Br.of (λd=>?_) (λd=>?_))
 ·exact⟨by rw[decide_eq_true (show -1000000000000000<=n from zQk d)];rfl,Pu.refl w⟩
 ·exact⟨by rw[decide_eq_false (show ¬ -1000000000000000<=n from zQd d)];rfl,Pu.refl w⟩
theorem xYA(n:Int)(w:World):Calls prog 167 #[.int .i64 n] w λe w'=>e=.returned (.bool (decide (-1000000000000000<=n) && decide (n<=1000000000000000)))/\Pu w w':=by
 refine yVP _ w _ (Br.of (λd=>?_) (λd=>?_))
 ·exact⟨by rw[decide_eq_true (show -1000000000000000<=n from zQk d)];rfl,Pu.refl w⟩
 ·exact⟨by rw[decide_eq_false (show ¬ -1000000000000000<=n from zQd d)];rfl,Pu.refl w⟩
theorem yJz(n:Int)(w:World):Calls prog 191 #[.int .i64 n] w λe w'=>e=.returned (.bool (decide (0<=n) && decide (n<=3652059)))/\Pu w w':=by
 refine yVR _ w _ (Br.of (λd=>?_) (λd=>?_))
 ·exact⟨by rw[decide_eq_true (show 0<=n from zQk d)];rfl,Pu.refl w⟩
 ·exact⟨by rw[decide_eq_false (show ¬0<=n from zQd d)];rfl,Pu.refl w⟩
def zZr(v:Val):Bool:=okN v.kind v.n && (decide (v.kind=4) || decide (v.s.size=0))
theorem xQg(v:Val)(w:World):Calls prog 147 #[.agg #[.int .i64 v.kind,.int .i64 v.n,.string v.s]] w λe w'=>e=.returned (.bool (zZr v))/\Pu w w':=by
 refine yWL _ _ _ w _ ?_
 refine alB λw1 hp hb=>?_
 have fin:(v.kind=4->v.n=0)->(v.kind ≠ 4->v.s.size=0)->yQH (λe w'=>e=.returned (.bool (zZr v))/\Pu w w') (some (⟨w.heap.size,0,none⟩:Addr)) v.kind [] w1:=λh4 hs=>by
  have e:zZr v=okN v.kind v.n:=by
   unfold zZr
   by_cases h:v.kind=4 <;> simp[h,hs]
  refine Br.of (λd=>?_) (λd=>Br.of (λd1=>?_) (λd1=>Br.of (λd2=>?_) (λd2=>Br.of (λd3=>?_) (λd3=>?_))))
  ·have d:=zQE d
   refine⟨_,cl hb 1,by rw[e,okN,if_pos d];rfl,hp⟩
  ·have d:=zQm d
   have d1:=zQE d1
   refine⟨_,cl hb 1,Br.of (λd2=>?_) (λd2=>⟨_,cl hb 1,?_,hp⟩)⟩
   ·have d2:=zQE d2
    refine⟨by rw[e,okN,if_neg d,if_pos d1,d2];rfl,hp⟩
   ·have d2:=zQm d2
    rw[e,okN,if_neg d,if_pos d1,decide_eq_false d2];rfl
  ·have d:=zQm d
   have d1:=zQm d1
   have d2:=zQE d2
   refine⟨_,cl hb 1,(xXt v.n w1).mono ?_⟩
   rintro e' w2 ⟨rfl,ar⟩
   exact⟨_,rfl,by rw[e,okN,if_neg d,if_neg d1,if_pos d2],hp.trans ar⟩
  ·have d:=zQm d
   have d1:=zQm d1
   have d2:=zQm d2
   have d3:=zQE d3
   refine⟨_,cl hb 1,(yJz v.n w1).mono ?_⟩
   rintro e' w2 ⟨rfl,ar⟩
   exact⟨_,rfl,by rw[e,okN,if_neg d,if_neg d1,if_neg d2,if_pos d3],hp.trans ar⟩
  ·have d:=zQm d
   have d1:=zQm d1
   have d2:=zQm d2
   have d3:=zQm d3
   refine⟨_,cl0 hb,?_,hp⟩
   rw[e,okN,if_neg d,if_neg d1,if_neg d2,if_neg d3]
   by_cases h:v.kind=4
   ·simp[h,h4 h]
   ·simp[h]
 have bad:zZr v=false->(Ending.returned (Value.bool false)=Ending.returned (Value.bool (zZr v))/\Pu w w1):=λh=>⟨by rw[h],hp⟩
 refine⟨_,cl0 hb,Br.of (λd=>⟨_,cl hb 2,?_⟩) (λd=>?_)⟩
 ·have d:=zQ1 d
  rw[zZa]
  refine Br.of (λd1=>?_) (λd1=>⟨_,cl0 hb,Br.of (λd2=>absurd (zQE d2) d) (λd2=>?_)⟩)
  ·exact bad (by simp at d1;simp[zZr,d,d1])
  ·exact⟨_,cl0 hb,fin (λh=>absurd h d) (λ_=>by simpa using d1)⟩
 ·have d:=zQs d
  refine⟨_,cl0 hb,Br.of (λd1=>⟨_,cl hb 1,?_⟩) (λd1=>absurd d (zQm d1))⟩
  refine Br.of (λd2=>?_) (λd2=>⟨_,cl0 hb,fin (λ_=>zQs d2) (λh=>absurd d h)⟩)
  exact bad (by have:=zQ1 d2;simp[zZr,okN,d,this])
theorem zZF(v:Val):zXi v=if 2048<v.s.size then 3 else if zZr v then 0 else 1:=rfl
theorem xXU(v:Val)(w:World):Calls prog 117 #[.agg #[.int .i64 v.kind,.int .i64 v.n,.string v.s]] w λe w'=>e=.returned (.int .i64 (zXi v))/\Pu w w':=by
 refine yWa _ _ _ w _ ?_
 refine alB λw1 hp hb=>⟨v.s,cl hb 2,Br.of (λd=>?_) (λd=>?_)⟩
 ·have:2048<v.s.size:=by have:=zQk d;omega
  exact⟨by rw[zZF,if_pos this],hp⟩
 ·have hn:¬2048<v.s.size:=by have:=zQd d;omega
  refine⟨_,cl hb 0,_,cl hb 1,_,cl hb 2,(xQg v w1).mono ?_⟩
  rintro e w2 ⟨rfl,ar⟩
  refine⟨_,rfl,Br.of (λd1=>?_) (λd1=>?_)⟩
  ·have d1:zZr v=false:=by simpa using d1
   exact⟨by rw[zZF,if_neg hn,d1];rfl,hp.trans ar⟩
  ·have d1:zZr v=true:=by simpa using d1
   exact⟨by rw[zZF,if_neg hn,d1];rfl,hp.trans ar⟩
theorem yJM(v:Val)(w:World):Calls prog 132 #[.agg #[.int .i64 v.kind,.int .i64 v.n,.string v.s]] w λe w'=>e=.returned (.int .i64 (zXi v))/\Pu w w':=by
 refine yWA _ _ _ w _ ?_
 refine alB λw1 hp hb=>⟨v.s,cl hb 2,Br.of (λd=>?_) (λd=>?_)⟩
 ·have:2048<v.s.size:=by have:=zQk d;omega
  exact⟨by rw[zZF,if_pos this],hp⟩
 ·have hn:¬2048<v.s.size:=by have:=zQd d;omega
  have fin:∀{b:Bool} {w2:World},b=okN v.kind v.n->Pu w1 w2->zKQ (λe w'=>e=.returned (.int .i64 (zXi v))/\Pu w w') (some (⟨w.heap.size,0,none⟩:Addr)) b [] w2:=λ{b w2} h ar=>by
   subst h
   have e1:zXi v=if zZr v then 0 else 1:=by rw[zZF,if_neg hn]
   have aN:=ar.blk hb
   refine Br.of (λd1=>?_) (λd1=>⟨_,cl0 aN,Br.of (λd2=>⟨_,cl aN 2,?_⟩) (λd2=>?_)⟩)
   ·exact⟨by rw[e1,zZr,show okN v.kind v.n=false by simpa using d1];rfl,hp.trans ar⟩
   ·have d1:okN v.kind v.n=true:=by simpa using d1
    have d2:=zQ1 d2
    rw[zZa]
    refine Br.of (λd3=>?_) (λd3=>?_)
    ·exact⟨by simp at d3;rw[e1];simp[zZr,d1,d2,d3],hp.trans ar⟩
    ·exact⟨by simp at d3;rw[e1];simp[zZr,d1,d2,d3],hp.trans ar⟩
   ·have d1:okN v.kind v.n=true:=by simpa using d1
    exact⟨by rw[e1,zZr,d1,zQs d2];rfl,hp.trans ar⟩
  refine⟨_,cl0 hb,Br.of (λd0=>⟨_,cl hb 1,fin ?_ (Pu.refl _)⟩) (λd0=>Br.of (λd1=>⟨_,cl hb 1,Br.of (λd2=>fin ?_ (Pu.refl _)) (λd2=>⟨_,cl hb 1,fin ?_ (Pu.refl _)⟩)⟩) (λd1=>Br.of (λd2=>⟨_,cl hb 1,(xYA v.n w1).mono ?_⟩)
   (λd2=>Br.of (λd3=>⟨_,cl hb 1,Br.of (λd4=>⟨_,cl hb 1,fin ?_ (Pu.refl _)⟩) (λd4=>fin ?_ (Pu.refl _))⟩) (λd3=>Br.of (λd4=>⟨_,cl hb 1,fin ?_ (Pu.refl _)⟩) (λd4=>fin ?_ (Pu.refl _))))))⟩
  ·rw[okN,if_pos (zQE d0)];rfl
  ·rw[okN,if_neg (zQm d0),if_pos (zQE d1),zQE d2];rfl
  ·rw[okN,if_neg (zQm d0),if_pos (zQE d1),decide_eq_false (zQm d2)];rfl
  ·rintro e' w2 ⟨rfl,ar⟩
   exact⟨_,rfl,fin (by rw[okN,if_neg (zQm d0),if_neg (zQm d1),if_pos (zQE d2)]) ar⟩
  ·rw[okN,if_neg (zQm d0),if_neg (zQm d1),if_neg (zQm d2),if_pos (zQE d3),decide_eq_true (show 0<=v.n from zQk d4)];rfl
  ·rw[okN,if_neg (zQm d0),if_neg (zQm d1),if_neg (zQm d2),if_pos (zQE d3),decide_eq_false (show ¬0<=v.n from zQd d4)];rfl
  ·rw[okN,if_neg (zQm d0),if_neg (zQm d1),if_neg (zQm d2),if_neg (zQm d3),if_pos (zQE d4)];rfl
  ·rw[okN,if_neg (zQm d0),if_neg (zQm d1),if_neg (zQm d2),if_neg (zQm d3),if_neg (zQm d4)]
end Go.Proofs.YtaeecpjhfmcliaaGreatDoor
/- Table: names, fields and pages: which are right. No condition. -/
namespace Go.Proofs.YtaeecpjhfmcliaaGreatDoor
open Go.Sh Go.RowKit Tryz
structure K5 where
 letter:Int
 least:Int
 most:Int
 wr:Nat
 rd:Nat
def zY4(k:K5):Value:=.agg #[.int .u8 k.letter,.int .i64 k.least,.int .i64 k.most,.func (.func k.wr) #[] #[],.func (.func k.rd) #[] #[]]
abbrev yWS(n:Int):Value:=.int .i64 n
def zZo:List (Int × K5):=[(1,⟨76,1,1,180,181⟩),(2,⟨78,1,15,182,183⟩),(3,⟨68,8,8,184,185⟩),(4,⟨67,1,254,186,187⟩),(5,⟨77,8,8,188,189⟩)]
theorem xYD:prog.underlying 176=some (.map 3 174):=by kernel_rfl
theorem yKS:yKm prog 3 yWS:=xJ3 (q:=.i64) (by kernel_rfl)
theorem z102(w:World):(zeroValue 174).run prog w=.ok (.agg #[.int .u8 0,.int .i64 0,.int .i64 0,.nilFunc,.nilFunc]) w:=Tryz.zeroValue174 w
theorem zWZ(w:World):Calls prog 145 #[] w λe w'=>∃b,e=.returned (.map (some b))/\zXF w' yWS zY4 b zZo/\w.heap.size<=b/\Pu w w':=by
 refine yVt w _ ?_
 refine zYy λw1 j3=>?_
 have hp:Pu w w1:=by rw[j3];exact Pu.alloc w _
 have hm:zXF w1 yWS zY4 w.heap.size ([]:List (Int × K5)):=by rw[j3];exact zXF.new w _ _
 obtain⟨w2,e2,h2,f2,_⟩:=hm.upd yKS xYD 1 ⟨76,1,1,180,181⟩
 obtain⟨w3,e3,h3,f3,_⟩:=h2.upd yKS xYD 2 ⟨78,1,15,182,183⟩
 obtain⟨w4,e4,h4,f4,_⟩:=h3.upd yKS xYD 3 ⟨68,8,8,184,185⟩
 obtain⟨w5,e5,h5,f5,_⟩:=h4.upd yKS xYD 4 ⟨67,1,254,186,187⟩
 obtain⟨w6,e6,h6,f6,_⟩:=h5.upd yKS xYD 5 ⟨77,8,8,188,189⟩
 refine⟨w2,e2,w3,e3,w4,e4,w5,e5,w6,e6,w.heap.size,rfl,h6,Nat.le_refl _,?_⟩
 have n:∀i,i=w.heap.size->w.heap.size<=i:=λi h=>by omega
 exact((((hp.andNew f2 n).andNew f3 n).andNew f4 n).andNew f5 n).andNew f6 n
def zXc(k:Int):Option K5:=AL.get zZo k
theorem zWL{w:World}{b:Nat}(h:zXF w yWS zY4 b zZo)(k:Int)(ok:Bool):(Instr.lookup 176 (.map (some b)) (.int .i64 k) ok).run prog w =
  .ok (if ok then .tuple #[(zXc k).elim (.agg #[.int .u8 0,.int .i64 0,.int .i64 0,.nilFunc,.nilFunc]) zY4,.bool (zXc k).isSome]else(zXc k).elim (.agg #[.int .u8 0,.int .i64 0,.int .i64 0,.nilFunc,.nilFunc]) zY4) w:=
 h.look yKS xYD (z102 w) k ok
theorem zJP(k:Int):(k=1/\zXc k=some ⟨76,1,1,180,181⟩)∨(k=2/\zXc k=some ⟨78,1,15,182,183⟩)∨(k=3/\zXc k=some ⟨68,8,8,184,185⟩)∨(k=4/\zXc k=some ⟨67,1,254,186,187⟩)∨(k=5/\zXc k=some ⟨77,8,8,188,189⟩)∨(k ≠ 1/\k ≠ 2/\k ≠ 3/\k ≠ 4/\k ≠ 5/\zXc k=none):=by
 by_cases h1:k=1
 ·subst h1;exact .inl ⟨rfl,rfl⟩
 by_cases h2:k=2
 ·subst h2;exact .inr (.inl ⟨rfl,rfl⟩)
 by_cases h3:k=3
 ·subst h3;exact .inr (.inr (.inl ⟨rfl,rfl⟩))
 by_cases h4:k=4
 ·subst h4;exact .inr (.inr (.inr (.inl ⟨rfl,rfl⟩)))
 by_cases h5:k=5
 ·subst h5;exact .inr (.inr (.inr (.inr (.inl ⟨rfl,rfl⟩))))
 ·refine .inr (.inr (.inr (.inr (.inr ⟨h1,h2,h3,h4,h5,?_⟩))))
  simp[zXc,zZo,AL.get,h1,h2,h3,h4,h5,Ne.symm h1,Ne.symm h2,Ne.symm h3,Ne.symm h4,Ne.symm h5]
def xYY:List UInt8:=[65,66,67,68,69,70,71,72,73,74,75,76,77,78,79,80,81,82,83,84,85,86,87,88,89,90,48,49,50,51,52,53,54,55,56,57,95]
theorem xYB(b:UInt8):xYY.contains b=(zWS b || zZm b || decide (b.toNat=95)):=by
 have h:∀n:Nat,n<256->xYY.contains (UInt8.ofNat n)=(zWS (UInt8.ofNat n) || zZm (UInt8.ofNat n) || decide ((UInt8.ofNat n).toNat=95)):=by decide +kernel
 have:=h b.toNat b.toNat_lt
 rwa [UInt8.ofNat_toNat]at this
theorem zZf{α:Type}(p:α->Bool):∀l:List α,l.dropWhile p=[] ↔ l.all p=true
 | []=>by simp
 | a :: l=>by
  by_cases h:p a=true
  ·rw[List.dropWhile_cons,if_pos h,zZf p l];simp[h]
  ·simp[List.dropWhile,h]
theorem zZp{α:Type}(p:α->Bool):∀l:List α,(l.dropWhile p).all p=true ↔ l.all p=true
 | []=>by simp
 | a :: l=>by
  by_cases h:p a=true
  ·simp only[List.dropWhile_cons,h,if_pos,List.all_cons,Bool.true_and]
   exact zZp p l
  ·simp[List.dropWhile,h]
theorem yZt(l cs:List UInt8):Lib.trimS l cs=[] ↔ l.all (cs.contains ·)=true:=by
 unfold Lib.trimS Lib.trimLeftS Lib.trimRightS
 rw[zZf]
 have:((l.reverse.dropWhile (cs.contains ·)).reverse).all (cs.contains ·)=(l.reverse.dropWhile (cs.contains ·)).all (cs.contains ·):=List.all_reverse
 rw[this,zZp,List.all_reverse]
theorem u110:(prog.info? 181).map (λi=>(i.zero,i.size))=some (some (.agg (Array.replicate 256 (.bool false))),256):=by kernel_rfl
theorem trim_c(s:ByteArray)(hs:s.size<=9223372036854775807)(w:World):Calls prog 190 #[.string s,.string ⟨#[65,66,67,68,69,70,71,72,73,74,75,76,77,78,79,80,81,82,83,84,85,86,87,88,89,90,48,49,50,51,52,53,54,55,56,57,95]⟩] w
  λe w'=>e=.returned (.string ⟨(Lib.trimS s.data.toList xYY).toArray⟩)/\Pu w w':=
 Any.strings_Trim_laid Tryz.lays160 u110 s ⟨#[65,66,67,68,69,70,71,72,73,74,75,76,77,78,79,80,81,82,83,84,85,86,87,88,89,90,48,49,50,51,52,53,54,55,56,57,95]⟩ w hs (by decide) (ascii_of_all (by decide))
theorem zWl{s:ByteArray}{k:Nat}(h:k<s.size):∃b,s[k]?=some b/\s.data.toList[k]?=some b:=by
 refine⟨s[k],by simp[h],?_⟩
 have:k<s.data.toList.length:=by simpa using h
 rw[List.getElem?_eq_getElem this]
 rfl
theorem zYC {s:ByteArray} {k:Nat} {b:UInt8} (h:s.data.toList[k]?=some b):s[k]?=some b:=by
 have hk:k<s.size:=by have:=(List.getElem?_eq_some_iff.1 h).1;simpa using this
 obtain⟨c,h1,h2⟩:=zWl hk
 rw[h2]at h
 rw[h1];exact h
theorem xJe(s:ByteArray)(hs:s.size<=140737488355328)(w:World):Calls prog 146 #[.string s] w λe w'=>e=.returned (.bool (zZx s))/\Pu w w':=by
 refine yWN _ w _ ?_
 have no:∀{w2:World},Pu w w2->zZx s=false->(Ending.returned (Value.bool false)=Ending.returned (Value.bool (zZx s))/\Pu w w2):=λh1 h2=>⟨by rw[h2],h1⟩
 rw[xZb,zZa]
 refine Br.of (λd0=>Br.of (λd1=>(trim_c s (by omega) w).mono ?_) (λd1=>no (Pu.refl _) ?_)) (λd0=>no (Pu.refl _) ?_)
 ·rintro e w2 ⟨rfl,ar⟩
  have d0:¬s.size=0:=by simpa using d0
  have d1:s.size<=10:=by have:=zQk d1;omega
  refine⟨_,rfl,?_⟩
  have e2:((ByteArray.mk (Lib.trimS s.data.toList xYY).toArray).toList == (⟨#[]⟩:ByteArray).toList)=s.data.toList.all (λb=>zWS b || zZm b || decide (b.toNat=95)):=by
   rw[zZa]
   have h1:((ByteArray.mk (Lib.trimS s.data.toList xYY).toArray).size=0) ↔ s.data.toList.all (xYY.contains ·)=true:=by
    rw[←yZt];simp[ByteArray.size]
   rw[show(λb:UInt8=>zWS b || zZm b || decide (b.toNat=95))=(xYY.contains ·)from funext λb=>(xYB b).symm]
   rw[Bool.eq_iff_iff,decide_eq_true_iff];exact h1
  rw[e2]
  have en:zZx s=(s.data.toList.all (λb=>zWS b || zZm b || decide (b.toNat=95)) && (s.data.toList.take 1).all zWS):=by
   unfold zZx;rw[decide_eq_true (show 1<=s.size by omega),decide_eq_true d1];simp only[Bool.true_and]
  obtain⟨b,ay,aN⟩:=zWl (s:=s) (k:=0) (by omega)
  have ht:s.data.toList.take 1=[b]:=by
   cases hl:s.data.toList with
   | nil=>rw[hl]at aN;simp at aN
   | cons a r=>rw[hl]at aN;simp at aN;simp[aN]
  refine Br.of (λd2=>⟨b,by omega,ay,Br.of (λd3=>⟨b,by omega,ay,?_,ar⟩) (λd3=>?_)⟩) (λd2=>?_)
  ·have d3:=zQk d3
   rw[en,d2,ht]
   simp only[List.all_cons,List.all_nil,Bool.and_true,Bool.true_and,zWS]
   rw[decide_eq_true (show 65<=b.toNat by omega)]
   simp only[Bool.true_and]
   congr 3
   exact propext (by omega)
  ·have d3:=zQd d3
   refine no ar ?_
   rw[en,d2,ht]
   simp only[List.all_cons,List.all_nil,Bool.and_true,Bool.true_and,zWS]
   rw[decide_eq_false (show ¬65<=b.toNat by omega)];rfl
  ·exact no ar (by rw[en,d2];rfl)
 ·have:=zQd d1
  unfold zZx;rw[decide_eq_false (show ¬s.size<=10 by omega)];simp
 ·have:s.size=0:=by simpa using d0
  unfold zZx;rw[this];rfl
theorem xXG(b:UInt8)(w:World):Calls prog 166 #[.int .u8 ((b.toNat:Nat):Int)] w λe w'=>e=.returned (.bool (zZm b))/\Pu w w':=by
 refine yW6 _ w _ (Br.of (λd=>?_) (λd=>?_))
 ·refine⟨?_,Pu.refl w⟩
  unfold zZm;have:=zQk d;rw[decide_eq_true (show 48<=b.toNat by omega),Bool.true_and]
  congr 2;simp only[decide_eq_decide];omega
 ·refine⟨?_,Pu.refl w⟩
  unfold zZm;have:=zQd d;rw[decide_eq_false (show ¬48<=b.toNat by omega)];rfl
theorem zJQ {α:Type} (p:α->Bool) {l:List α} {k:Nat} {x:α} (h:l[k]?=some x):(l.take (k+1)).all p=((l.take k).all p && p x):=by
 rw[zQB h,List.all_append];simp
theorem xXi(s:ByteArray)(w:World):Calls prog 130 #[.string s] w λe w'=>e=.returned (.bool (zZx s))/\Pu w w':=by
 refine yV4 _ w _ (Br.of (λd0=>⟨?_,Pu.refl _⟩) (λd0=>Br.of (λd1=>⟨?_,Pu.refl _⟩) (λd1=>?_)))
 ·have:=zQk d0
  unfold zZx;rw[decide_eq_false (show ¬1<=s.size by omega)];rfl
 ·have:=zQk d1
  unfold zZx;rw[decide_eq_false (show ¬s.size<=10 by omega)];simp
 have d0:=zQd d0
 have d1:=zQd d1
 have en:zZx s=(s.data.toList.all (λb=>zWS b || zZm b || decide (b.toNat=95)) && (s.data.toList.take 1).all zWS):=by
  unfold zZx;rw[decide_eq_true (show 1<=s.size by omega),decide_eq_true (show s.size<=10 by omega)];simp only[Bool.true_and]
 refine zQw s.size (λk t w'=>t=(k:Int)/\Pu w w'/\(s.data.toList.take k).all (λb=>zWS b || zZm b || decide (b.toNat=95))=true/\((s.data.toList.take k).take 1).all zWS=true) ⟨rfl,Pu.refl _,rfl,rfl⟩ ?_
 rintro k J t w2 hk ⟨ht,ar,ha,hf⟩ hJ
 obtain rfl:t=(k:Int):=ht
 refine Br.of (λd2=>?_) (λd2=>?_)
 ·have hks:k<s.size:=by have:=zQk d2;omega
  obtain⟨b,ay,aN⟩:=zWl hks
  have hu:=b.toNat_lt
  have go:∀{w3:World},Pu w2 w3->(zWS b || zZm b || decide (b.toNat=95))=true->(k=0->zWS b=true)->zW1 (λe w'=>e=.returned (.bool (zZx s))/\Pu w w') J s (k:Int) [] w3:=λ{w3} ax h1 h2=>by
   show J (IntKind.i64.wrap ((k:Int)+1)) w3
   rw[zQa (by omega) (by omega)]
   refine hJ _ _ hks ⟨by omega,ar.trans ax,?_,?_⟩
   ·rw[zJQ _ aN,ha,h1];rfl
   ·by_cases h0:k=0
    ·subst h0;rw[zQB aN];simp[h2 rfl]
    ·have:((s.data.toList.take (k+1)).take 1)=(s.data.toList.take k).take 1:=by rw[List.take_take,List.take_take];congr 1;omega
     rw[this];exact hf
  have no:∀{w3:World},Pu w2 w3->((zWS b || zZm b || decide (b.toNat=95))=false∨(k=0/\zWS b=false))->(Ending.returned (Value.bool false)=Ending.returned (Value.bool (zZx s))/\Pu w w3):=λ{w3} ax h=>by
   refine⟨?_,ar.trans ax⟩
   have hm:b ∈ s.data.toList:=List.mem_of_getElem? aN
   rcases h with h|⟨h0,h⟩
   ·have:s.data.toList.all (λb=>zWS b || zZm b || decide (b.toNat=95))=false:=by
     rw[List.all_eq_false];exact⟨b,hm,by rw[h];simp⟩
    rw[en,this];rfl
   ·subst h0
    have:(s.data.toList.take 1).all zWS=false:=by rw[zQB aN];simp[h]
    rw[en,this];simp
  refine⟨b,by omega,by rw[zXh];exact ay,?_⟩
  have tail:zWS b=false->Br ((k:Int) == 0) (Ending.returned (Value.bool false)=Ending.returned (Value.bool (zZx s))/\Pu w w2) (Br (((b.toNat:Nat):Int) != 95) (Calls prog 166 #[.int .u8 ((b.toNat:Nat):Int)] w2 λe w3=>∃tk:Bool,e=.returned (.bool tk)/\Br (!tk) (Ending.returned (Value.bool false)=Ending.returned (Value.bool (zZx s))/\Pu w w3) (zW1 (λe w'=>e=.returned (.bool (zZx s))/\Pu w w') J s (k:Int) [] w3)) (zW1 (λe w'=>e=.returned (.bool (zZx s))/\Pu w w') J s (k:Int) [] w2)):=λhc=>by
   refine Br.of (λd3=>no (Pu.refl _) (.inr ⟨by have:=zQE d3;omega,hc⟩)) (λd3=>Br.of (λd4=>(xXG b w2).mono ?_) (λd4=>go (Pu.refl _) ?_ (λh=>absurd (by omega) (zQm d3))))
   ·rintro e w3 ⟨rfl,ax⟩
    refine⟨_,rfl,Br.of (λd5=>no ax (.inl ?_)) (λd5=>go ax ?_ (λh=>absurd (by omega) (zQm d3)))⟩
    ·have d5:zZm b=false:=by simpa using d5
     have d4:=zQ1 d4
     rw[hc,d5,decide_eq_false (by omega)];rfl
    ·have d5:zZm b=true:=by simpa using d5
     rw[d5];simp
   ·have:=zQs d4
    rw[decide_eq_true (show b.toNat=95 by omega)];simp
  refine Br.of (λd3=>Br.of (λd4=>?_) (λd4=>go (Pu.refl _) ?_ (λ_=>?_))) (λd3=>?_)
  ·refine tail ?_
   have d4:¬((b.toNat:Nat):Int)<=90:=by simpa using d4
   unfold zWS;rw[decide_eq_false (show ¬b.toNat<=90 by omega)];simp
  ·have d3:=zQk d3
   have d4:((b.toNat:Nat):Int)<=90:=by simpa using d4
   unfold zWS;rw[decide_eq_true (show b.toNat<=90 by omega),decide_eq_true (show 65<=b.toNat by omega)];rfl
  ·have d3:=zQk d3
   have d4:((b.toNat:Nat):Int)<=90:=by simpa using d4
   unfold zWS;rw[decide_eq_true (show b.toNat<=90 by omega),decide_eq_true (show 65<=b.toNat by omega)];rfl
  ·refine tail ?_
   have d3:=zQd d3
   unfold zWS;rw[decide_eq_false (show ¬65<=b.toNat by omega)];simp
 ·have aI:k=s.size:=by have:=zQd d2;omega
  refine⟨?_,ar⟩
  rw[aI,show s.size=s.data.toList.length by simp,List.take_length]at ha hf
  rw[en,ha,hf];rfl
end Go.Proofs.YtaeecpjhfmcliaaGreatDoor
/- Table: fields and pages: which are right; empty values. No condition. -/
namespace Go.Proofs.YtaeecpjhfmcliaaGreatDoor
open Go.Sh Go.RowKit Tryz
theorem zZC{p q:Prop}[Decidable p][Decidable q](h:p ↔ q):decide p=decide q:=by simp[h]
abbrev yQb(f:Fld):Value:=.agg #[.string f.name,.int .i64 f.kind,.int .i64 f.width,.bool f.null]
abbrev zJA(v:Val):Value:=.agg #[.int .i64 v.kind,.int .i64 v.n,.string v.s]
theorem yKs(n:Int)(w:World):Calls prog 116 #[.int .i64 n] w λe w'=>e=.returned (.bool (zQW n))/\Pu w w':=by
 refine yVw _ w _ (Br.of (λd=>?_) (λd=>?_))
 ·exact⟨by rw[zQW,decide_eq_true (show 0<=n from zQk d)];rfl,Pu.refl w⟩
 ·exact⟨by rw[zQW,decide_eq_false (show ¬0<=n from zQd d)];rfl,Pu.refl w⟩
theorem yXO(n:Int)(w:World):Calls prog 52 #[.int .i64 n] w λe w'=>e=.returned (.bool (zQW n))/\Pu w w':=by
 refine xXp _ w _ (Br.of (λd=>?_) (λd=>?_))
 ·exact⟨by rw[zQW,decide_eq_true (show 0<=n from zQk d)];rfl,Pu.refl w⟩
 ·exact⟨by rw[zQW,decide_eq_false (show ¬0<=n from zQd d)];rfl,Pu.refl w⟩
theorem xZk(k:Int):∃n a b x y,(zXc k).elim (.agg #[.int .u8 0,.int .i64 0,.int .i64 0,.nilFunc,.nilFunc]) zY4=.agg #[.int .u8 n,.int .i64 a,.int .i64 b,x,y]/\yX2 x=true/\yX2 y=true/\
  (zXc k).isSome=decide (k=1∨k=2∨k=3∨k=4∨k=5)/\((zXc k).isSome=true->∀m:Int,zW9 k m=(decide (a<=m) && decide (m<=b))):=by
 rcases zJP k with⟨rfl,h⟩|⟨rfl,h⟩|⟨rfl,h⟩|⟨rfl,h⟩|⟨rfl,h⟩|⟨h1,h2,h3,h4,h5,h⟩
 ·rw[h];refine⟨_,_,_,_,_,rfl,rfl,rfl,rfl,λ_ m=>?_⟩
  show decide (m=1)=(decide (1<=m) && decide (m<=1))
  rw[←Bool.decide_and];exact zZC (by omega)
 ·rw[h];exact⟨_,_,_,_,_,rfl,rfl,rfl,rfl,λ_ m=>rfl⟩
 ·rw[h];refine⟨_,_,_,_,_,rfl,rfl,rfl,rfl,λ_ m=>?_⟩
  show decide (m=8)=(decide (8<=m) && decide (m<=8))
  rw[←Bool.decide_and];exact zZC (by omega)
 ·rw[h];exact⟨_,_,_,_,_,rfl,rfl,rfl,rfl,λ_ m=>rfl⟩
 ·rw[h];refine⟨_,_,_,_,_,rfl,rfl,rfl,rfl,λ_ m=>?_⟩
  show decide (m=8)=(decide (8<=m) && decide (m<=8))
  rw[←Bool.decide_and];exact zZC (by omega)
 ·rw[h];exact⟨_,_,_,_,_,rfl,rfl,rfl,by simp[h1,h2,h3,h4,h5],λhn=>by simp at hn⟩
theorem yQI {k:Int} (h:(zXc k).isSome=false) (m:Int):zW9 k m=false:=by
 rcases zJP k with⟨rfl,h1⟩|⟨rfl,h1⟩|⟨rfl,h1⟩|⟨rfl,h1⟩|⟨rfl,h1⟩|⟨h1,h2,h3,h4,h5,_⟩
 ·rw[h1]at h;simp at h
 ·rw[h1]at h;simp at h
 ·rw[h1]at h;simp at h
 ·rw[h1]at h;simp at h
 ·rw[h1]at h;simp at h
 ·unfold zW9;rw[if_neg h1,if_neg h2,if_neg h3,if_neg h4,if_neg h5]
theorem xYU{n a b:Int}{x y:Value}(hx:yX2 x=true)(hy:yX2 y=true):(#[.int .u8 n,.int .i64 a,.int .i64 b,x,y]:Array Value).toList.all yX2=true:=by
 show([.int .u8 n,.int .i64 a,.int .i64 b,x,y]:List Value).all yX2=true
 simp only[List.all_cons,List.all_nil,hx,hy];rfl
theorem s102:zX9 prog 174=5:=by kernel_rfl
theorem s25:zX9 prog 73=3:=by kernel_rfl
theorem s23:zX9 prog 129=4:=by kernel_rfl
theorem yZ4(f:Fld)(hs:f.name.size<=140737488355328)(w:World):Calls prog 115 #[yQb f] w λe w'=>e=.returned (.bool (zQn f))/\Pu w w':=by
 refine yWT _ _ _ _ w _ ?_
 refine alB λw1 aq ay=>zQc λw2 ar hh2=>?_
 have dN:=aq.trans ar
 refine⟨λw'=>Pu w2 w',Pu.refl _,f.kind,λw' hw'=>hw'.cell (ar.cell (cl ay 1)),?_⟩
 obtain⟨n,a,b,x,y,hk,hx,hy,hsome,hkw⟩:=xZk f.kind
 have main:∀{w3 w4:World} {r:Nat},Pu w1 w3->w3.heap[r]?=some (.cells #[.int .u8 n,.int .i64 a,.int .i64 b,x,y] 174)->Pu w w3->
   yKF (λe w'=>e=.returned (.bool (zQn f))/\Pu w w') (some (⟨w.heap.size,0,none⟩:Addr)) (some (⟨r,0,none⟩:Addr)) (zXc f.kind).isSome [] w3:=λ{w3 w4 r} q1 q2 q3=>by
  have no:∀{w5:World},Pu w w5->zQn f=false->(Ending.returned (Value.bool false)=Ending.returned (Value.bool (zQn f))/\Pu w w5):=λh1 h2=>⟨by rw[h2],h1⟩
  have br:=q1.blk ay
  refine Br.of (λd=>⟨f.name,cl0 br,(xJe f.name hs w3).mono ?_⟩) (λd=>no q3 ?_)
  ·rintro e w5 ⟨rfl,aU⟩
   have bu:=aU.blk br
   have hr5:=aU.blk q2
   refine⟨_,rfl,Br.of (λd1=>⟨_,cl bu 2,_,cl hr5 1,Br.of (λd2=>⟨_,cl bu 2,_,cl hr5 2,?_,q3.trans aU⟩) (λd2=>no (q3.trans aU) ?_)⟩) (λd1=>no (q3.trans aU) ?_)⟩
   ·unfold zQn;rw[d1,hkw d,decide_eq_true (show a<=f.width from zQk d2)];rfl
   ·unfold zQn;rw[d1,hkw d,decide_eq_false (show ¬a<=f.width from zQd d2)];rfl
   ·unfold zQn;rw[d1];rfl
  ·unfold zQn;rw[yQI d];simp
 have hlook:∀{m:Nat} {w':World},zXF w' yWS zY4 m zZo->(Instr.lookup 176 (.map (some m)) (.int .i64 f.kind) true).run prog w'=.ok (.tuple #[.agg #[.int .u8 n,.int .i64 a,.int .i64 b,x,y],.bool (zXc f.kind).isSome]) w':=λ{m w'} hm=>by
  rw[zWL hm,hk];rfl
 constructor
 ·refine(zWZ w2).mono ?_
  rintro e w3 ⟨m,rfl,hm,_,ax⟩
  refine⟨some m,rfl,λw'=>Pu w3 w',Pu.refl _,λu hu=>ax.trans hu,n,a,b,x,y,(zXc f.kind).isSome,λw' hw'=>hlook (hm.pu hw'),?_⟩
  refine alB λw4 aK dx=>⟨λw'=>Pu w3 w',aK,λu hu=>hu,?_⟩
  refine zQi dx s102.symm rfl (xYU hx hy) λw5 bu cL oo=>?_
  have ci:Pu w3 w5:=aK.andNew cL λi hi=>by omega
  exact main (w4:=w4) ((ar.trans ax).trans ci) bu (dN.trans (ax.trans ci))
 ·refine alB λw4 aK dx=>⟨λw'=>Pu w4 w',Pu.refl _,λu hu=>aK.trans hu,?_⟩
  refine(zWZ w4).mono ?_
  rintro e w3 ⟨m,rfl,hm,_,ax⟩
  refine⟨some m,rfl,λw'=>Pu w3 w',Pu.refl _,λu hu=>ax.trans hu,n,a,b,x,y,(zXc f.kind).isSome,λw' hw'=>hlook (hm.pu hw'),?_⟩
  refine zQi (ax.blk dx) s102.symm rfl (xYU hx hy) λw5 bu cL oo=>?_
  have mR:Pu w2 w5:=(aK.trans ax).andNew cL λi hi=>by omega
  exact main (w4:=w4) (ar.trans mR) bu (dN.trans mR)
theorem yQy(f:Fld)(w:World):Calls prog 91 #[yQb f] w λe w'=>e=.returned (.bool (zQn f))/\Pu w w':=by
 refine yYy _ _ _ _ w _ ?_
 refine alB λw1 aq ay=>⟨_,cl0 ay,(xXi f.name w1).mono ?_⟩
 rintro e w2 ⟨rfl,ar⟩
 have aN:=ar.blk ay
 have q2:=aq.trans ar
 have out:∀{b:Bool},b=zQn f->(Ending.returned (Value.bool b)=Ending.returned (Value.bool (zQn f))/\Pu w w2):=λh=>⟨by rw[h],q2⟩
 have two:∀{lo hi:Int},(zZx f.name=true->zW9 f.kind f.width=(decide (lo<=f.width) && decide (f.width<=hi)))->zZx f.name=true->
   Br (decide (f.width >= lo)) (∃n:Int,w2.cell? ((⟨w.heap.size,0,none⟩:Addr).add 2)=some (.int .i64 n)/\(Ending.returned (Value.bool (decide (n<=hi)))=Ending.returned (Value.bool (zQn f))/\Pu w w2)) (Ending.returned (Value.bool false)=Ending.returned (Value.bool (zQn f))/\Pu w w2):=λ{lo hi} h h0=>
  Br.of (λd=>⟨_,cl aN 2,out (by unfold zQn;rw[h0,h h0,decide_eq_true (show lo<=f.width from zQk d)];rfl)⟩) (λd=>out (by unfold zQn;rw[h0,h h0,decide_eq_false (show ¬lo<=f.width from zQd d)];rfl))
 refine⟨_,rfl,Br.of (λd=>out ?_) (λd=>?_)⟩
 ·have:zZx f.name=false:=by simpa using d
  unfold zQn;rw[this];rfl
 have hn:zZx f.name=true:=by simpa using d
 have ef:zQn f=zW9 f.kind f.width:=by unfold zQn;rw[hn];rfl
 refine⟨_,cl aN 1,Br.of (λd1=>⟨_,cl aN 2,out ?_⟩) (λd1=>Br.of (λd2=>⟨_,cl aN 2,two ?_ hn⟩) (λd2=>Br.of (λd3=>Br.of (λd4=>⟨_,cl aN 2,out ?_⟩) (λd4=>?_)) (λd3=>Br.of (λd4=>⟨_,cl aN 2,out ?_⟩) (λd4=>Br.of (λd5=>⟨_,cl aN 2,two ?_ hn⟩) (λd5=>out ?_)))))⟩
 ·rw[ef,zQE d1];show(f.width == 1)=decide (f.width=1);simp[BEq.beq]
 ·intro _;rw[zQE d2];rfl
 ·rw[ef,zQE d3];show(f.width == 8)=decide (f.width=8);simp[BEq.beq]
 ·exact absurd (zQE d3) (zQm d4)
 ·rw[ef,zQE d4];show(f.width == 8)=decide (f.width=8);simp[BEq.beq]
 ·intro _;rw[zQE d5];rfl
 ·rw[ef];unfold zW9;rw[if_neg (zQm d1),if_neg (zQm d2),if_neg (zQm d3),if_neg (zQm d5),if_neg (zQm d4)]
theorem yYE(f:Fld)(w:World):Calls prog 118 #[yQb f] w λe w'=>e=.returned (zJA (zXp f))/\Pu w w':=by
 refine yWx _ _ _ _ w _ ?_
 refine alB λw1 aq ay=>alB λw2 ar aN=>⟨_,cl (ar.blk ay) 1,Br.of (λd=>?_) (λd=>⟨_,cl (ar.blk ay) 1,?_⟩)⟩
 ·refine zQi aN s25.symm rfl rfl λw3 br fU qF=>?_
  have bn:Pu w w3:=aq.trans (ar.andNew fU λi hi=>by omega)
  exact⟨_,cl br 0,_,cl br 1,_,cl br 2,by unfold zXp;rw[if_pos (zQE d)],bn⟩
 ·refine zQi aN s25.symm rfl rfl λw3 br fU qF=>?_
  have bn:Pu w w3:=aq.trans (ar.andNew fU λi hi=>by omega)
  exact⟨_,cl br 0,_,cl br 1,_,cl br 2,by unfold zXp;rw[if_neg (zQm d)],bn⟩
theorem xYX(s:ByteArray)(w:World):Calls prog 177 #[.string s] w λe w'=>e=.returned (zJA ⟨4,0,s⟩)/\Pu w w':=by
 refine yV1 _ w _ ?_
 refine alB λw2 ar aN=>?_
 refine zQi aN s25.symm rfl rfl λw3 br fU qF=>?_
 exact⟨_,cl br 0,_,cl br 1,_,cl br 2,rfl,ar.andNew fU λi hi=>by omega⟩
end Go.Proofs.YtaeecpjhfmcliaaGreatDoor
/- Table: numbers in digits; blanks at a text's end. No condition. -/
namespace Go.Proofs.YtaeecpjhfmcliaaGreatDoor
open Go.Sh Go.RowKit Tryz
theorem zJy(a b:List UInt8):bs a ++ bs b=bs (a ++ b):=zQU (by simp[bs])
theorem zJ4(a b:ByteArray):a ++ b=bs (a.data.toList ++ b.data.toList):=zQU (by simp[bs])
theorem zQ7(s:ByteArray)(i j:Nat):(s.extract i j).data.toList=(s.data.toList.take j).drop i:=by
 rw[ByteArray.data_extract,Array.toList_extract,List.extract_eq_take_drop,List.drop_take]
theorem zVQ:∀k:Nat,k<10->(⟨#[48,49,50,51,52,53,54,55,56,57]⟩:ByteArray).extract k (k+1)=bs [UInt8.ofNat (48+k)]:=by
 intro k hk
 apply zQU
 rw[zQ7,zQN]
 match k,hk with
 | 0,_=>rfl
 | 1,_=>rfl
 | 2,_=>rfl
 | 3,_=>rfl
 | 4,_=>rfl
 | 5,_=>rfl
 | 6,_=>rfl
 | 7,_=>rfl
 | 8,_=>rfl
 | 9,_=>rfl
theorem zZj{n:Nat}(h:n<10):zZM n=[UInt8.ofNat (48+n)]:=by rw[zZM,dif_pos h]
theorem zZG{n:Nat}(h:¬n<10):zZM n=zZM (n / 10) ++ [UInt8.ofNat (48+n % 10)]:=by rw[zZM,dif_neg h]
theorem zKF(n:Nat):(zZM n).length<=n+1:=by
 induction n using Nat.strongRecOn with
 | _ n ih=>
  by_cases h:n<10
  ·rw[zZj h];simp
  ·rw[zZG h]
   have:=ih (n / 10) (by omega)
   simp only[List.length_append,List.length_singleton];omega
theorem yQT(n:Nat):1<=(zZM n).length:=by
 by_cases h:n<10
 ·rw[zZj h];simp
 ·rw[zZG h];simp
theorem zKA(n:Nat):∀b ∈ zZM n,48<=b.toNat/\b.toNat<=57:=by
 induction n using Nat.strongRecOn with
 | _ n ih=>
  have one:∀k,k<10->48<=(UInt8.ofNat (48+k)).toNat/\(UInt8.ofNat (48+k)).toNat<=57:=λk hk=>by simp;omega
  by_cases h:n<10
  ·rw[zZj h];intro b hb;simp only[List.mem_singleton]at hb;subst hb;exact one n h
  ·rw[zZG h];intro b hb
   rcases List.mem_append.1 hb with hb|hb
   ·exact ih (n / 10) (by omega) b hb
   ·simp only[List.mem_singleton]at hb;subst hb;exact one _ (by omega)
theorem yKv:∀(n:Nat),n<=4611686018427387904->∀w:World,Calls prog 154 #[.int .i64 (n:Int)] w λe w'=>e=.returned (.string (bs (zZM n)))/\Pu w w':=by
 intro n
 induction n using Nat.strongRecOn with
 | _ n ih=>
  intro hn w
  refine yQB _ w _ (Br.of (λd=>absurd (zQk d) (by omega)) (λd=>Br.of (λd1=>?_) (λd1=>zQc λw4 aK _=>?_)))
  ·have d1:n<10:=by have:=zQk d1;omega
   rw[zQa (by omega) (by omega)]
   refine⟨by omega,?_,by omega,by omega,?_,Pu.refl w⟩
   ·show _<=10;omega
   ·rw[zXh,show((n:Int)+1).toNat=n+1 by omega,zVQ n d1,zZj d1]
  ·have d1:¬n<10:=by have:=zQd d1;omega
   have e1:((n:Int).tmod 10)=((n % 10:Nat):Int):=by rw[Int.tmod_eq_emod_of_nonneg (by omega)];omega
   have e2:((n:Int).tdiv 10)=((n / 10:Nat):Int):=by rw[Int.tdiv_eq_ediv_of_nonneg (by omega)];omega
   rw[e1,e2,zQa (by omega) (by omega),zQa (by omega) (by omega)]
   have e3:(((n % 10:Nat):Int)+1).toNat=n % 10+1:=by omega
   rw[e3,zXh,zVQ (n % 10) (by omega)]
   refine⟨rfl,by omega,rfl,by omega,rfl,by omega,by omega,?_,by omega,by omega,(ih (n / 10) (by omega) (by omega) w4).mono ?_⟩
   ·show _<=10;omega
   rintro e w5 ⟨rfl,aU⟩
   refine⟨_,rfl,?_,?_,aK.trans aU⟩
   ·rw[zQ8,zQ8];have:=zKF (n / 10);simp only[List.length_singleton];omega
   ·rw[zJy,zZG d1]
theorem zKC(n:Nat):zJh (n:Int)=zZM n:=by unfold zJh;rw[if_neg (by omega)];rfl
theorem zVV{n:Int}(h:n<0):zJh n=45 :: zZM n.natAbs:=by unfold zJh;rw[if_pos h]
theorem dec_c{n:Int}(h1:-4611686018427387904<=n)(h2:n<=4611686018427387904)(w:World):Calls prog 154 #[.int .i64 n] w λe w'=>e=.returned (.string (bs (zJh n)))/\Pu w w':=by
 by_cases h:n<0
 ·refine yQB _ w _ (Br.of (λd=>?_) (λd=>absurd h (zQd d)))
  rw[zQa (by omega) (by omega)]
  have e:(0 - n:Int)=((n.natAbs:Nat):Int):=by omega
  rw[e]
  refine(yKv n.natAbs (by omega) w).mono ?_
  rintro e w2 ⟨rfl,hp⟩
  refine⟨_,rfl,?_,?_,hp⟩
  ·have e4:=zQ8 (zZM n.natAbs);have:=zKF n.natAbs;show(((1+(bs (zZM n.natAbs)).size:Nat)):Int)<=_;omega
  ·rw[zVV h];exact congrArg (λx=>Ending.returned (Value.string x)) (zJy [45] _)
 ·obtain⟨k,rfl⟩:∃k:Nat,n=k:=⟨n.toNat,by omega⟩
  rw[zKC]
  exact yKv k (by omega) w
theorem zVr:∀(n:Nat),n<=9223372036854775807->∀w:World,Calls prog 134 #[.int .i64 (n:Int)] w λe w'=>e=.returned (.string (bs (zZM n)))/\Pu w w':=by
 intro n
 induction n using Nat.strongRecOn with
 | _ n ih=>
  intro hn w
  refine yQt _ w _ (Br.of (λd=>absurd (zQk d) (by omega)) (λd=>Br.of (λd1=>?_) (λd1=>?_)))
  ·have d1:n<10:=by have:=zQk d1;omega
   rw[zQa (by omega) (by omega)]
   refine⟨by omega,?_,by omega,by omega,?_,Pu.refl w⟩
   ·show _<=10;omega
   ·rw[zXh,show((n:Int)+1).toNat=n+1 by omega,zVQ n d1,zZj d1]
  ·have d1:¬n<10:=by have:=zQd d1;omega
   have e1:((n:Int).tmod 10)=((n % 10:Nat):Int):=by rw[Int.tmod_eq_emod_of_nonneg (by omega)];omega
   have e2:((n:Int).tdiv 10)=((n / 10:Nat):Int):=by rw[Int.tdiv_eq_ediv_of_nonneg (by omega)];omega
   rw[e1,e2,zQa (by omega) (by omega)]
   refine⟨rfl,by omega,(ih (n / 10) (by omega) (by omega) w).mono ?_⟩
   rintro e w5 ⟨rfl,aU⟩
   refine⟨_,rfl,rfl,by omega,(ih (n % 10) (by omega) (by omega) w5).mono ?_⟩
   rintro e w6 ⟨rfl,bC⟩
   refine⟨_,rfl,?_,?_,aU.trans bC⟩
   ·rw[zQ8,zQ8];have:=zKF (n / 10);have:=zKF (n % 10);omega
   ·rw[zJy,zZG d1,zZj (show n % 10<10 by omega)]
theorem yYU:zJh (-9223372036854775808)=[45,57,50,50,51,51,55,50,48,51,54,56,53,52,55,55,53,56,48,56]:=by decide +kernel
theorem xQh{n:Int}(hn:zZL n)(w:World):Calls prog 134 #[.int .i64 n] w λe w'=>e=.returned (.string (bs (zJh n)))/\Pu w w':=by
 obtain⟨h1,h2⟩:=hn
 by_cases h:n<0
 ·refine yQt _ w _ (Br.of (λd=>Br.of (λd1=>?_) (λd1=>?_)) (λd=>absurd h (zQd d)))
  ·rw[zQE d1,yYU];exact⟨rfl,Pu.refl w⟩
  have d1:=zQm d1
  rw[zQa (by omega) (by omega)]
  have e:(0 - n:Int)=((n.natAbs:Nat):Int):=by omega
  rw[e]
  refine(zVr n.natAbs (by omega) w).mono ?_
  rintro e w2 ⟨rfl,hp⟩
  have hl:(zZM n.natAbs).length<9223372036854775807:=by
   by_cases oC:n.natAbs<10
   ·rw[zZj oC];simp
   ·rw[zZG oC];have:=zKF (n.natAbs / 10);simp only[List.length_append,List.length_singleton];omega
  refine⟨_,rfl,?_,?_,hp⟩
  ·have e4:=zQ8 (zZM n.natAbs);show(((1+(bs (zZM n.natAbs)).size:Nat)):Int)<=_;omega
  ·rw[zVV h];exact congrArg (λx=>Ending.returned (Value.string x)) (zJy [45] _)
 ·obtain⟨k,rfl⟩:∃k:Nat,n=k:=⟨n.toNat,by omega⟩
  rw[zKC]
  exact zVr k (by omega) w
theorem zY5(b:UInt8):∀n,Lib.repeatL [b] n=List.replicate n b
 | 0=>rfl
 | n+1=>by rw[List.replicate_succ,←zY5 b n];rfl
theorem zKJ(b:UInt8)(n:Nat)(hn:n<=140737488355328)(w:World):Calls prog 155 #[.string ⟨#[b]⟩,.int .i64 (n:Int)] w λe w'=>e=.returned (.string (bs (List.replicate n b)))/\Pu w w':=by
 have h:=Any.strings_Repeat Tryz.lays105 Tryz.Builder_Extra_105 ⟨#[b]⟩ n w (by omega) (by show 1 * n<=_;omega)
 have e:Lib.repeatL (⟨#[b]⟩:ByteArray).data.toList n=List.replicate n b:=zY5 b n
 rw[e]at h
 exact h
theorem zYR(s:ByteArray)(hs:s.size<=140737488355328)(w:World):Calls prog 119 #[.string s,.string ⟨#[32]⟩] w λe w'=>e=.returned (.string (bs (zZw s.data.toList)))/\Pu w w':=
 (Any.strings_TrimRight_one Tryz.lays162 s 32 (by decide) w (by omega)).mono λe w' ⟨h1,h2⟩=>⟨h1,h2 ▸ Pu.refl _⟩
theorem zWG(l:List UInt8)(b:UInt8):zZw (l ++ [b])=if b=32 then zZw l else l ++ [b]:=by
 unfold zZw
 rw[List.reverse_append,List.reverse_singleton,List.singleton_append,List.dropWhile_cons]
 by_cases h:b=32
 ·simp[h]
 ·simp[h]
theorem xXS(s:ByteArray)(hs:s.size<=9223372036854775807)(w:World):Calls prog 135 #[.string s] w λe w'=>e=.returned (.string (bs (zZw s.data.toList)))/\Pu w w':=by
 refine yVq _ w _ ?_
 refine zQw s.size (λk t w'=>t=((s.size - k:Nat):Int)/\Pu w w'/\zZw s.data.toList=zZw (s.data.toList.take (s.size - k))) ⟨rfl,Pu.refl _,by rw[Nat.sub_zero,show s.size=s.data.toList.length by simp,List.take_length]⟩ ?_
 rintro k J t w2 hk ⟨ht,hp,hb⟩ hJ
 obtain rfl:t=((s.size - k:Nat):Int):=ht
 have fin:zZw (s.data.toList.take (s.size - k))=s.data.toList.take (s.size - k)->yZo (λe w'=>e=.returned (.string (bs (zZw s.data.toList)))/\Pu w w') s ((s.size - k:Nat):Int) [] w2:=λh=>by
  refine⟨by omega,by rw[zXh];omega,by omega,?_,hp⟩
  rw[zXh,hb,h]
  congr 2
  exact zQU (by rw[zQ7,zQN];rfl)
 refine Br.of (λd=>?_) (λd=>fin ?_)
 ·have aI:k<s.size:=by have:=zQk d;omega
  rw[yZo]at fin
  have e1:((s.size - k:Nat):Int) - 1=((s.size - (k+1):Nat):Int):=by omega
  rw[e1,zQa (by omega) (by omega)]
  obtain⟨b,ay,aN⟩:=zWl (s:=s) (k:=s.size - (k+1)) (by omega)
  have et:s.data.toList.take (s.size - k)=s.data.toList.take (s.size - (k+1)) ++ [b]:=by
   rw[show s.size - k=s.size - (k+1)+1 by omega,zQB aN]
  refine⟨b,by omega,by rw[zXh];exact ay,Br.of (λd1=>hJ _ _ aI ⟨rfl,hp,?_⟩) (λd1=>fin ?_)⟩
  ·have:b=32:=by have:=zQE d1;apply UInt8.toNat_inj.1;show b.toNat=32;omega
   rw[hb,et,zWG,if_pos this]
  ·have:¬b=32:=λh=>zQm d1 (by rw[h];rfl)
   rw[et,zWG,if_neg this]
 ·have:s.size - k=0:=by have:=zQd d;omega
  rw[this];rfl
end Go.Proofs.YtaeecpjhfmcliaaGreatDoor
/- Table: pages of characters; which texts a page has. No condition. -/
namespace Go.Proofs.YtaeecpjhfmcliaaGreatDoor
open Go.Sh Go.RowKit Tryz
def yJV(w:World)(r:Nat)(g:Nat->Bool):Prop:=∃c,w.heap[r]?=some (.cells c 213)/\c.size=768/\∀i,i<768->∃n:Int,c[i]?=some (.int .i32 n)/\decide (n<0)=g i
theorem yJV.ext{w:World}{r:Nat}{g g':Nat->Bool}(h:yJV w r g)(e:∀i,i<768->g i=g' i):yJV w r g':=
 let ⟨c,h1,h2,h3⟩:=h;⟨c,h1,h2,λi hi=>let ⟨n,h4,h5⟩:=h3 i hi;⟨n,h4,h5.trans (e i hi)⟩⟩
theorem yJV.fr{B:Nat->Prop}{w w':World}{r:Nat}{g:Nat->Bool}(h:yJV w r g)(hf:Fr B w w')(hn:¬B r):yJV w' r g:=
 let ⟨c,h1,h2⟩:=h;⟨c,hf.blk h1 hn,h2⟩
theorem yJV.st{w:World}{r:Nat}{g:Nat->Bool}(h:yJV w r g){j:Nat}(hj:j<768)(n:Int)(a:Addr)(ha:a=⟨r,j,none⟩){K:World->Prop}
  (hK:∀w',yJV w' r (λi=>if i=j then decide (n<0)else g i)->Fr (·=r) w w'->K w'):st1 a (.int .i32 n) w K:=by
 subst ha
 obtain⟨c,h1,h2,h3⟩:=h
 refine zQt h1 (by omega) λw' hw' hb'=>hK w' ⟨_,hb',by simp[h2],λi hi=>?_⟩ (by rw[hw'];exact Fr.cell w r j _)
 by_cases e:i=j
 ·subst e;exact⟨n,by simp[h2,hi],by simp⟩
 ·obtain⟨m,h4,h5⟩:=h3 i hi
  exact⟨m,by rw[Array.getElem?_setIfInBounds_ne (Ne.symm e)];exact h4,by simp[e,h5]⟩
theorem i32_in{n:Int}(h1:-2147483648<=n)(h2:n<=2147483647):IntKind.i32.wrap n=n:=Go.IntWalk.i32_in n ⟨h1,h2⟩
theorem xYw:zc prog 213=Array.replicate 768 (.int .i32 0):=by kernel_rfl
theorem s149:zX9 prog 213=768:=by kernel_rfl
def sg1(k i:Nat):Bool:=decide ((128<=i/\i<k)∨(640<=i/\i<512+k))
def sg2(k i:Nat):Bool:=decide ((128<=i/\i<256)∨(512+k<=i/\i<768))
def sg3(k i:Nat):Bool:=decide ((128<=i/\i<256)∨(688<=i/\i<736)∨(512+k<=i/\i<768))
theorem ad1(r:Nat)(p k:Nat):(((⟨r,0,none⟩:Addr).add ((p:Int).toNat * 256)).add ((k:Int).toNat * 1))=⟨r,p * 256+k,none⟩:=by
 rw[zQr,zQr,zXh,zXh,Nat.zero_add,Nat.mul_one]
theorem xYI(w:World):Calls prog 196 #[] w λe w'=>∃c:Array Value,e=.returned (.agg c)/\c.size=768/\(∀i,i<768->∃n:Int,c[i]?=some (.int .i32 n)/\decide (n<0)=sg3 240 i)/\Pu w w':=by
 refine yKU w _ ?_
 refine alB λw1 aq ay=>alB λw2 ar aN=>?_
 have hw12:w.heap.size<w1.heap.size:=zQx ay
 have g0:yJV w2 w1.heap.size (sg1 0):=⟨_,aN,by rw[xYw];simp,λi hi=>⟨0,by rw[xYw];simp[hi],by unfold sg1;simp;omega⟩⟩
 -- the end
 have fin:∀{w3:World},yJV w3 w1.heap.size (sg3 240)->Fr (·=w1.heap.size) w2 w3->yYB (λe w'=>∃c:Array Value,e=.returned (.agg c)/\c.size=768/\(∀i,i<768->∃n:Int,c[i]?=some (.int .i32 n)/\decide (n<0)=sg3 240 i)/\Pu w w') (some (⟨w.heap.size,0,none⟩:Addr)) (some (⟨w1.heap.size,0,none⟩:Addr)) [] w3:=by
  intro w3 ⟨c,h1,h2,h3⟩ hf
  have br:=hf.blk (ar.blk ay) (show ¬w.heap.size=w1.heap.size by omega)
  refine⟨c,h2,λi hi=>cl h1 i,?_⟩
  have ho:c.toList.all yX2=true:=by
   rw[List.all_eq_true]
   intro v hv
   obtain⟨i,hi,rfl⟩:=List.getElem_of_mem hv
   have hi':i<c.size:=by simpa using hi
   obtain⟨n,h4,_⟩:=h3 i (by omega)
   rw[Array.getElem?_eq_getElem hi']at h4
   have h4:=Option.some.inj h4
   rw[Array.getElem_toList,h4];rfl
  refine zQi br (by rw[s149,h2]) (by rw[xYw,h2];simp) ho λw4 dx gR xF=>?_
  refine⟨c,h2,λi hi=>cl dx i,c,rfl,h2,h3,?_⟩
  have hpu:Pu w w3:=(aq.trans ar).andNew hf λi hi=>by have hi:i=w1.heap.size:=hi;omega
  exact hpu.andNew gR λi hi=>by have hi:i=w.heap.size:=hi;omega
 refine zQw 256 (λk t w'=>t=(k:Int)/\yJV w' w1.heap.size (sg1 k)/\Fr (·=w1.heap.size) w2 w') ⟨rfl,g0,Fr.refl _ _⟩ ?_
 rintro k J t w3 hk ⟨ht,hg,hf⟩ hJ
 obtain rfl:t=(k:Int):=ht
 refine Br.of (λd=>?_) (λd=>?_)
 ·have aI:k<256:=by have:=zQk d;omega
  refine⟨by omega,by omega,by omega,by omega,?_⟩
  rw[i32_in (by omega) (by omega)]
  refine hg.st (j:=256+k) (by omega) (k:Int) _ (ad1 _ 1 k) λw4 hg4 gR=>?_
  rw[zQa (by omega) (by omega)]
  refine Br.of (λd1=>?_) (λd1=>?_)
  ·have d1:128<=k:=by have:=zQk d1;omega
   refine⟨by omega,by omega,by omega,by omega,hg4.st (j:=0+k) (by omega) (-1) _ (ad1 _ 0 k) λw5 wK cL=>⟨by omega,by omega,by omega,by omega,wK.st (j:=512+k) (by omega) (-1) _ (ad1 _ 2 k) λw6 hg6 iN=>?_⟩⟩
   refine hJ _ _ aI ⟨by omega,hg6.ext λi hi=>?_,((hf.trans gR λ_ h _=>h).trans cL λ_ h _=>h).trans iN λ_ h _=>h⟩
   simp only[sg1]
   repeat' split
   all_goals first|(simp only[decide_eq_decide];omega)|(rw[eq_comm,decide_eq_true_iff];omega)|(rw[eq_comm];simp;omega)|(simp;omega)
  ·have d1:¬128<=k:=by have:=zQd d1;omega
   refine⟨by omega,by omega,by omega,by omega,hg4.st (j:=0+k) (by omega) (k:Int) _ (ad1 _ 0 k) λw5 wK cL=>⟨by omega,by omega,by omega,by omega,wK.st (j:=512+k) (by omega) (k:Int) _ (ad1 _ 2 k) λw6 hg6 iN=>?_⟩⟩
   refine hJ _ _ aI ⟨by omega,hg6.ext λi hi=>?_,((hf.trans gR λ_ h _=>h).trans cL λ_ h _=>h).trans iN λ_ h _=>h⟩
   simp only[sg1]
   repeat' split
   all_goals first|(simp only[decide_eq_decide];omega)|(rw[eq_comm,decide_eq_true_iff];omega)|(rw[eq_comm];simp;omega)|(simp;omega)
 have aI:k=256:=by have:=zQd d;omega
 subst aI
 clear hJ J d
 refine zQw 48 (λk t w'=>t=((128+k:Nat):Int)/\yJV w' w1.heap.size (sg2 (128+k))/\Fr (·=w1.heap.size) w2 w') ⟨rfl,hg.ext λi hi=>by unfold sg1 sg2;exact zZC (by omega),hf⟩ ?_
 rintro k J t w4 hk ⟨ht,hg,hf⟩ hJ
 obtain rfl:t=((128+k:Nat):Int):=ht
 refine Br.of (λd=>?_) (λd=>?_)
 ·have aI:k<48:=by have:=zQk d;omega
  refine⟨by omega,by omega,by omega,by omega,?_⟩
  rw[zQa (by omega) (by omega),i32_in (n:=((128+k:Nat):Int) - 128) (by omega) (by omega),i32_in (by omega) (by omega),zQa (by omega) (by omega)]
  refine hg.st (j:=512+(128+k)) (by omega) _ _ (ad1 _ 2 (128+k)) λw5 wK cL=>hJ _ _ aI ⟨by omega,wK.ext λi hi=>?_,hf.trans cL λ_ h _=>h⟩
  simp only[sg2]
  split
  ·rw[decide_eq_decide];omega
  ·simp only[decide_eq_decide];omega
 have aI:k=48:=by have:=zQd d;omega
 subst aI
 clear hJ J d
 refine zQw 16 (λk t w'=>t=((224+k:Nat):Int)/\yJV w' w1.heap.size (sg3 (224+k))/\Fr (·=w1.heap.size) w2 w') ⟨rfl,hg.ext λi hi=>by unfold sg3 sg2;exact zZC (by omega),hf⟩ ?_
 rintro k J t w5 hk ⟨ht,hg,hf⟩ hJ
 obtain rfl:t=((224+k:Nat):Int):=ht
 refine Br.of (λd=>?_) (λd=>?_)
 ·have aI:k<16:=by have:=zQk d;omega
  refine⟨by omega,by omega,by omega,by omega,?_⟩
  rw[zQa (by omega) (by omega),i32_in (n:=((224+k:Nat):Int) - 224) (by omega) (by omega),i32_in (by omega) (by omega),zQa (by omega) (by omega)]
  refine hg.st (j:=512+(224+k)) (by omega) _ _ (ad1 _ 2 (224+k)) λw5 wK cL=>hJ _ _ aI ⟨by omega,wK.ext λi hi=>?_,hf.trans cL λ_ h _=>h⟩
  simp only[sg3]
  split
  ·rw[decide_eq_decide];omega
  ·simp only[decide_eq_decide];omega
 have aI:k=16:=by have:=zQd d;omega
 subst aI
 exact fin hg hf
theorem u149:prog.underlying 213=some (.array 3 212):=by kernel_rfl
theorem xZz{cs:Array Value}{p:Nat}(hp:p<3)(w:World):(Instr.index 213 (.agg cs) (.int .i64 (p:Int))).run prog w=.ok (.agg (cs.extract (p * 256) (p * 256+256))) w:=by
 have h1:(part 212 cs (p * 256)).run prog w=.ok (.agg (cs.extract (p * 256) (p * 256+256))) w:=by
  unfold part
  have a:(isAgg 212).run prog w=.ok true w:=Tryz.isAgg212 w
  have s:(sizeOf 212).run prog w=.ok 256 w:=Tryz.sizeOf212 w
  simp only[Sem.run_bind,a,Result.andThen_ok,if_true,s,Sem.run_pure]
 have s:(sizeOf 212).run prog w=.ok 256 w:=Tryz.sizeOf212 w
 unfold Instr.index
 simp only[asIntOf,Sem.run_bind,Sem.run_pure,Result.andThen_ok,zQo u149]
 have h0:(0:Int)<=(p:Int)/\(p:Int)<((3:Nat):Int):=by omega
 rw[if_pos h0]
 simp only[Sem.run_bind,s,Result.andThen_ok,zXh,h1]
theorem xYO {w:World} {r:Nat} {s:ByteArray} (p:Int) (hb:w.heap[r]?=some (.cells #[.string s] 9)):Calls prog 195 #[.int .i64 p,.slice (some ⟨r,0,none⟩) 1 1] w λe w'=>e=.returned (.int .i64 (if 2048<s.size then 3 else if zQW p then 0 else 1))/\Pu w w':=by
 refine yKQ _ ⟨some ⟨r,0,none⟩,1,1⟩ w _ ?_
 refine zQw 1 (λk t w'=>t=(k:Int)/\w'=w/\(0<k->¬2048<s.size)) ⟨rfl,rfl,λh=>by omega⟩ ?_
 rintro k J t w2 hk ⟨ht,hw,hs⟩ hJ
 obtain rfl:t=(k:Int):=ht
 obtain rfl:w2=w:=hw
 refine Br.of (λd=>?_) (λd=>?_)
 ·have fj:k=0:=by have:=zQk d;dsimp only at this;omega
  subst fj
  refine⟨_,rfl,by omega,by dsimp only;omega,s,cl hb 0,Br.of (λd1=>?_) (λd1=>?_)⟩
  ·exact⟨by rw[if_pos (show 2048<s.size by have:=zQk d1;omega)],Pu.refl _⟩
  ·rw[zQa (by omega) (by omega)]
   exact hJ _ _ (by omega) ⟨rfl,rfl,λ_=>by have:=zQd d1;omega⟩
 ·have hk1:k=1:=by have:=zQd d;dsimp only at this;omega
  subst hk1
  rw[if_neg (hs (by omega))]
  refine Br.of (λd1=>?_) (λd1=>Br.of (λd2=>?_) (λd2=>?_))
  ·have:=zQk d1;exact⟨by rw[if_neg];simp[zQW];omega,Pu.refl _⟩
  ·have:=zQk d2;exact⟨by rw[if_neg];simp[zQW];omega,Pu.refl _⟩
  ·have:=zQd d1;have:=zQd d2;exact⟨by rw[if_pos];simp[zQW];omega,Pu.refl _⟩
theorem on_sg{b:UInt8}{p:Nat}(hp:p<3):sg3 240 (p * 256+b.toNat)=!onB b (p:Int):=by
 have:=b.toNat_lt
 unfold sg3 onB
 rcases(by omega:p=0∨p=1∨p=2)with rfl|rfl|rfl
 ·rw[if_pos (by rfl),←decide_not];exact zZC (by omega)
 ·rw[if_neg (by omega),if_pos (by rfl)];simp;omega
 ·rw[if_neg (by omega),if_neg (by omega),←Bool.decide_and,←Bool.decide_or,←decide_not];exact zZC (by omega)
theorem u9:prog.underlying 9=some .string:=by kernel_rfl
theorem u37:prog.underlying 22=some (.slice 5):=by kernel_rfl
theorem u5:prog.underlying 5=some (.int .u8):=by kernel_rfl
theorem s148:zX9 prog 212=256:=by kernel_rfl
theorem zc148':zc prog 212=Array.replicate 256 (.int .i32 0):=by kernel_rfl
theorem zc148:(zc prog 212).size=256:=by rw[zc148'];simp
theorem yJC(s:ByteArray)(hs:s.size<=140737488355328)(p:Int)(w:World):Calls prog 152 #[.string s,.int .i64 p] w λe w'=>
  e=.returned (.tuple #[.bool (decide (s.size<=2048) && zQW p && zXO s.data.toList p),.int .i64 (if 2048<s.size then 3 else if zQW p then 0 else 1)])/\Pu w w':=by
 refine yVK _ _ w _ ?_
 refine alB λw1 aq ay=>(xYO p ay).mono ?_
 rintro e w2 ⟨rfl,ar⟩
 refine⟨_,rfl,Br.of (λd=>?_) (λd=>?_)⟩
 ·have d:=zQ1 d
  refine⟨?_,aq.trans ar⟩
  have:(decide (s.size<=2048) && zQW p)=false:=by
   by_cases h:2048<s.size
   ·rw[decide_eq_false (by omega)];rfl
   ·cases h2:zQW p
    ·simp
    ·rw[if_neg h,h2]at d;exact absurd rfl d
  rw[this];rfl
 have d:=zQs d
 have sa:¬2048<s.size:=λh=>by rw[if_pos h]at d;omega
 have hpg:zQW p=true:=by
  cases h2:zQW p
  ·rw[if_neg sa,h2]at d;simp at d
  ·rfl
 obtain⟨q,rfl,hq⟩:∃q:Nat,p=q/\q<3:=⟨p.toNat,by simp[zQW]at hpg;omega,by simp[zQW]at hpg;omega⟩
 refine(xYI w2).mono ?_
 rintro e w3 ⟨c,rfl,hc,hn,ax⟩
 refine⟨c,hc,rfl,c.extract (q * 256) (q * 256+256),by simp[hc];omega,w3,xZz hq w3,?_⟩
 have hat:∀i,i<256->∃n:Int,(c.extract (q * 256) (q * 256+256))[i]?=some (.int .i32 n)/\decide (n<0)=sg3 240 (q * 256+i):=λi hi=>by
  obtain⟨n,h1,h2⟩:=hn (q * 256+i) (by omega)
  refine⟨n,?_,h2⟩
  rw[Array.getElem?_extract,if_pos (by omega)]
  exact h1
 refine alB λw4 aK dx=>zQi dx (by rw[s148];simp[hc];omega) (by rw[zc148];simp[hc];omega) ?_ λw5 bu cL oo=>?_
 ·rw[List.all_eq_true]
  intro v hv
  obtain⟨i,hi,rfl⟩:=List.getElem_of_mem hv
  have hi':i<(c.extract (q * 256) (q * 256+256)).size:=by rw[←Array.length_toList];exact hi
  obtain⟨n,h4,_⟩:=hat i (by rw[Array.size_extract]at hi';omega)
  rw[Array.getElem?_eq_getElem hi']at h4
  have h4:=Option.some.inj h4
  rw[Array.getElem_toList,h4];rfl
 have ci:Pu w3 w5:=aK.andNew cL λi hi=>by have hi:i=w3.heap.size:=hi;omega
 obtain⟨l,w6,hcv,bC,hl⟩:=yVH (P:=prog) u9 u37 u5 s (by omega) w5
 have fV:=bC.blk bu
 have hlen:=hl.len
 have hlen2:s.data.toList.length=s.size:=by simp
 have e2:(decide (s.size<=2048) && zQW (q:Int) && zXO s.data.toList (q:Int))=zXO s.data.toList (q:Int):=by rw[hpg,decide_eq_true (by omega)];rfl
 refine⟨l,w6,hcv,zQw s.data.toList.length (λk t w'=>t=(k:Int)/\w'=w6/\zXO (s.data.toList.take k) (q:Int)=true) ⟨rfl,rfl,rfl⟩ ?_⟩
 rintro k J t w7 hk ⟨ht,hw7,htx⟩ hJ
 obtain rfl:t=(k:Int):=ht
 obtain rfl:w7=w6:=hw7
 have hpu:Pu w w7:=(((aq.trans ar).trans ax).trans ci).trans bC
 refine Br.of (λd1=>?_) (λd1=>?_)
 ·have aI:k<s.data.toList.length:=by have:=zQk d1;omega
  obtain⟨b,hb⟩:=zQM aI
  obtain⟨a,ha,hi,hcell⟩:=hl.u8 hb
  have hbl:=b.toNat_lt
  obtain⟨n,hn1,xX⟩:=hat b.toNat (by omega)
  refine⟨a,ha,by omega,by omega,_,by simpa using hcell,by omega,by omega,n,?_,?_⟩
  ·rw[zQr,zQF fV,Nat.zero_add,zXh,Nat.mul_one];exact hn1
  rw[xX,on_sg hq]
  refine Br.of (λd2=>⟨?_,hpu⟩) (λd2=>?_)
  ·have d2:onB b (q:Int)=false:=by simpa using d2
   have:zXO s.data.toList (q:Int)=false:=by
    unfold zXO;rw[List.all_eq_false];exact⟨b,List.mem_of_getElem? hb,by rw[d2];simp⟩
   rw[e2,this,if_neg sa,hpg];rfl
  ·have d2:onB b (q:Int)=true:=by simpa using d2
   rw[zQa (by omega) (by omega)]
   exact hJ _ _ aI ⟨by omega,rfl,by unfold zXO at *;rw[zJQ _ hb,htx,d2];rfl⟩
 ·have aI:k=s.data.toList.length:=by have:=zQd d1;omega
  rw[aI,List.take_length]at htx
  exact⟨by rw[e2,htx,if_neg sa,hpg];rfl,hpu⟩
theorem xZY(s:ByteArray)(hs:s.size<=2048){p:Int}(hpg:zQW p=true)(w:World):Calls prog 120 #[.string s,.int .i64 p] w λe w'=>e=.returned (.bool (zXO s.data.toList p))/\Pu w w':=by
 refine yVM _ _ w _ ((yJC s (by omega) p w).mono ?_)
 rintro e w2 ⟨rfl,hp⟩
 have e1:(decide (s.size<=2048) && zQW p && zXO s.data.toList p)=zXO s.data.toList p:=by rw[hpg,decide_eq_true hs];rfl
 refine⟨_,_,rfl,?_⟩
 rw[e1,if_neg (by omega),hpg]
 exact Br.of (λd=>⟨by rw[d];rfl,hp⟩) (λd=>⟨by rw[d],hp⟩)
theorem on_c(b:UInt8)(p:Int)(w:World):Calls prog 168 #[.int .u8 ((b.toNat:Nat):Int),.int .i64 p] w λe w'=>e=.returned (.bool (onB b p))/\Pu w w':=by
 have hu:=b.toNat_lt
 refine yWn _ _ w _ (Br.of (λd=>⟨?_,Pu.refl w⟩) (λd=>Br.of (λd1=>⟨?_,Pu.refl w⟩) (λd1=>Br.of (λd2=>⟨?_,Pu.refl w⟩) (λd2=>Br.of (λd3=>⟨?_,Pu.refl w⟩) (λd3=>⟨?_,Pu.refl w⟩)))))
 ·rw[onB,if_pos (zQE d)];congr 2;exact zZC (by omega)
 ·rw[onB,if_neg (zQm d),if_pos (zQE d1)]
 ·have:=zQk d2
  rw[onB,if_neg (zQm d),if_neg (zQm d1),decide_eq_true (show b.toNat<176 by omega)];rfl
 ·have:=zQd d2;have:=zQk d3
  rw[onB,if_neg (zQm d),if_neg (zQm d1),decide_eq_false (show ¬b.toNat<176 by omega),decide_eq_true (show 224<=b.toNat by omega),Bool.false_or,Bool.true_and];congr 2;exact zZC (by omega)
 ·have:=zQd d2;have:=zQd d3
  rw[onB,if_neg (zQm d),if_neg (zQm d1),decide_eq_false (show ¬b.toNat<176 by omega),decide_eq_false (show ¬224<=b.toNat by omega)];rfl
theorem yQ6(s:ByteArray)(hs:s.size<=140737488355328)(p:Int)(w:World):Calls prog 136 #[.string s,.int .i64 p] w λe w'=>e=.returned (.bool (zXO s.data.toList p))/\Pu w w':=by
 refine yWP _ _ w _ ?_
 refine zQw s.size (λk t w'=>t=(k:Int)/\Pu w w'/\zXO (s.data.toList.take k) p=true) ⟨rfl,Pu.refl _,rfl⟩ ?_
 rintro k J t w2 hk ⟨ht,hp,htx⟩ hJ
 obtain rfl:t=(k:Int):=ht
 refine Br.of (λd=>?_) (λd=>?_)
 ·have aI:k<s.size:=by have:=zQk d;omega
  obtain⟨b,ay,aN⟩:=zWl aI
  refine⟨b,by omega,by rw[zXh];exact ay,(on_c b p w2).mono ?_⟩
  rintro e w3 ⟨rfl,ax⟩
  refine⟨_,rfl,Br.of (λd1=>⟨?_,hp.trans ax⟩) (λd1=>?_)⟩
  ·have d1:onB b p=false:=by simpa using d1
   have:zXO s.data.toList p=false:=by
    unfold zXO;rw[List.all_eq_false];exact⟨b,List.mem_of_getElem? aN,by rw[d1];simp⟩
   rw[this]
  ·have d1:onB b p=true:=by simpa using d1
   rw[zQa (by omega) (by omega)]
   exact hJ _ _ aI ⟨by omega,hp.trans ax,by unfold zXO at *;rw[zJQ _ aN,htx,d1];rfl⟩
 ·have aI:k=s.data.toList.length:=by have:=zQd d;simp;omega
  rw[aI,List.take_length]at htx
  exact⟨by rw[htx],hp⟩
end Go.Proofs.YtaeecpjhfmcliaaGreatDoor
/- Table: what a value becomes in a field. No condition. -/
namespace Go.Proofs.YtaeecpjhfmcliaaGreatDoor
open Go.Sh Go.RowKit Tryz
theorem zYW(ts:Array TypeId)(r:TypeId)(k:IntKind)(a b:Int)(w:World):(Builtin.min_ ts r #[.int k a,.int k b]).run prog w=.ok (.int k (min a b)) w:=by
 rw[run_min_int2];congr 2;omega
theorem zKK{v:Val}(h:zXi v=0):v.s.size<=2048/\okN v.kind v.n=true/\(v.kind=4∨v.s.size=0):=by
 rw[zZF]at h
 by_cases h1:2048<v.s.size
 ·rw[if_pos h1]at h;omega
 ·rw[if_neg h1]at h
  cases h2:zZr v
  ·rw[h2]at h;simp at h
  ·unfold zZr at h2;simp at h2;exact⟨by omega,h2.1,h2.2.imp id λe=>by rw[e];rfl⟩
def xZr(n w:Int):List UInt8:=if w<(zJh n).length then List.replicate w.toNat 42 else List.replicate (w.toNat - (zJh n).length) 32 ++ zJh n
theorem str_c{n w:Int}(h1:-1000000000000000<=n/\n<=1000000000000000)(h2:1<=w/\w<=254)(W:World):Calls prog 121 #[.int .i64 n,.int .i64 w] W λe W'=>e=.returned (.tuple #[.string (bs (xZr n w)),.int .i64 0])/\Pu W W':=by
 refine yWw _ _ W _ ((xXt n W).mono ?_)
 rintro e W1 ⟨rfl,aq⟩
 refine⟨_,rfl,?_⟩
 rw[decide_eq_true h1.1,decide_eq_true h1.2]
 refine Br.f rfl (Br.of (λd=>absurd (zQk d) (by omega)) (λ_=>Br.of (λd=>absurd (zQk d) (by omega)) (λ_=>(dec_c (by omega) (by omega) W1).mono ?_)))
 rintro e W2 ⟨rfl,ar⟩
 have es:=zQ8 (zJh n)
 refine⟨_,rfl,Br.of (λd=>?_) (λd=>?_)⟩
 ·have d:=zQk d
  have e1:w=((w.toNat:Nat):Int):=by omega
  rw[show(Value.int .i64 w)=.int .i64 ((w.toNat:Nat):Int)by rw[←e1]]
  refine(zKJ 42 w.toNat (by omega) W2).mono ?_
  rintro e W3 ⟨rfl,ax⟩
  exact⟨_,rfl,by unfold xZr;rw[if_pos (by omega)],(aq.trans ar).trans ax⟩
 ·have d:=zQd d
  rw[xQD,zQa (by omega) (by omega)]
  have e1:w - (((bs (zJh n)).size:Nat):Int)=((w.toNat - (zJh n).length:Nat):Int):=by omega
  rw[e1]
  refine(zKJ 32 _ (by omega) W2).mono ?_
  rintro e W3 ⟨rfl,ax⟩
  refine⟨_,rfl,?_,?_,(aq.trans ar).trans ax⟩
  ·rw[zQ8,zQ8];simp only[List.length_replicate];omega
  ·rw[zJy];unfold xZr;rw[if_neg (by omega)]
theorem xJw(s:ByteArray)(b:UInt8)(w:World):Calls prog 122 #[.string s,.string ⟨#[b]⟩] w λe w'=>e=.returned (.bool (decide (s.data.toList.head?=some b)))/\Pu w w':=
 (Any.strings_HasPrefix Tryz.lays99 s ⟨#[b]⟩ w).mono λe w' ⟨h1,h2⟩=>⟨by
  rw[h1];congr 2
  show Lib.hasPrefix s.data.toList [b]=_
  unfold Lib.hasPrefix
  cases s.data.toList with
  | nil=>rfl
  | cons a l=>
   rw[List.isPrefixOf_cons_cons,List.isPrefixOf_nil_left,Bool.and_true]
   by_cases h:b=a
   ·simp[h]
   ·simp[h,Ne.symm h],h2 ▸ Pu.refl _⟩
theorem xQ0(n:Int):∃b l,zJh n=b :: l/\b ≠ 42:=by
 by_cases h:n<0
 ·exact⟨45,_,zVV h,by decide⟩
 ·have hn:zJh n=zZM n.natAbs:=by unfold zJh;rw[if_neg h]
  cases hl:zZM n.natAbs with
  | nil=>have:=yQT n.natAbs;rw[hl]at this;simp at this
  | cons b l=>
   refine⟨b,l,by rw[hn,hl],λe=>?_⟩
   have:=zKA n.natAbs b (by rw[hl];simp)
   rw[e]at this;simp at this
theorem yYi{n w:Int}(h:1<=w):decide ((xZr n w).head?=some 42)=decide (w<(zJh n).length):=by
 obtain⟨b,l,hd,hb⟩:=xQ0 n
 unfold xZr
 by_cases h1:w<(zJh n).length
 ·rw[if_pos h1,decide_eq_true h1]
  obtain⟨k,hk⟩:∃k,w.toNat=k+1:=⟨w.toNat - 1,by omega⟩
  rw[hk,List.replicate_succ];simp
 ·rw[if_neg h1,decide_eq_false h1]
  cases hm:w.toNat - (zJh n).length with
  | zero=>rw[hd];simp[hb]
  | succ m=>simp[List.replicate_succ]
theorem retV {w:World} {r:Nat} {c:Array Value} (v:Val) (k:Int) {R:Rt} (hb:w.heap[r]?=some (.cells c 73)) (hc:c.size=3) (hR:∀w',Fr (·=r) w w'->R (.returned (.tuple #[zJA v,.int .i64 k])) w') :
  stA prog 73 (⟨r,0,none⟩:Addr) #[.int .i64 v.kind,.int .i64 v.n,.string v.s] w λw'=>∃n0:Int,w'.cell? ((⟨r,0,none⟩:Addr).add 0)=some (.int .i64 n0)/\∃n1:Int,w'.cell? ((⟨r,0,none⟩:Addr).add 1)=some (.int .i64 n1)/\
   ∃s2:ByteArray,w'.cell? ((⟨r,0,none⟩:Addr).add 2)=some (.string s2)/\R (.returned (.tuple #[.agg #[.int .i64 n0,.int .i64 n1,.string s2],.int .i64 k])) w':=
 zQi hb s25.symm (by rw[hc];rfl) rfl λw' hb' hf _=>⟨_,cl hb' 0,_,cl hb' 1,_,cl hb' 2,hR w' hf⟩
theorem zJ1 {f:Fld} {p:Int} {v:Val} (h:(zQn f && zQW p)=false):zZO f p v=(noV,1):=by unfold zZO;rw[h];rfl
theorem zKt {f:Fld} {p:Int} {v:Val} (h:(zQn f && zQW p)=true) (h2:zXi v ≠ 0):zZO f p v=(noV,zXi v):=by unfold zZO;rw[h,if_pos rfl,if_pos h2]
theorem zJN {f:Fld} {p:Int} {v:Val} (h:(zQn f && zQW p)=true) (h2:zXi v=0):zZO f p v=zQQ f p v:=by unfold zZO;rw[h,if_pos rfl,if_neg (by omega)]
theorem zVO{f:Fld}(h:zQn f=true)(hk:f.kind=4):1<=f.width/\f.width<=254:=by
 unfold zQn zW9 at h;rw[hk]at h;simp at h;exact h.2
theorem xYy{f:Fld}(h:zQn f=true)(hk:f.kind=2):1<=f.width/\f.width<=15:=by
 unfold zQn zW9 at h;rw[hk]at h;simp at h;exact h.2
theorem yKo(l:List UInt8)(w:Int)(n:Nat)(hn:l.length=n)(hw:0<=w):l.take (min (n:Int) w).toNat=l.take w.toNat:=by
 by_cases h:(n:Int)<=w
 ·rw[show(min (n:Int) w).toNat=n by omega,List.take_of_length_le (by omega),List.take_of_length_le (by omega)]
 ·rw[show min (n:Int) w=w by omega]
theorem yXr(l:List UInt8):(zZw l).length<=l.length:=by
 unfold zZw
 have h:=List.IsSuffix.length_le (List.dropWhile_suffix (· == (32:UInt8)) (l:=l.reverse))
 simpa using h
theorem fit_c(f:Fld)(p:Int)(v:Val)(hs:f.name.size<=140737488355328)(w:World):Calls prog 83 #[yQb f,.int .i64 p,zJA v] w λe w'=>
  e=.returned (.tuple #[zJA (zZO f p v).1,.int .i64 (zZO f p v).2])/\Pu w w':=by
 refine xQC _ _ _ _ _ _ _ _ w _ ?_
 refine alB λw1 aq ay=>alB λw2 ar aN=>alB λw3 ax br=>?_
 have z1:w1.heap.size<=w2.heap.size:=ar.size
 have z0:w.heap.size<=w1.heap.size:=aq.size
 have l1:w.heap.size<w1.heap.size:=zQx ay
 have l2:w1.heap.size<w2.heap.size:=zQx aN
 have aV:Pu w w3:=(aq.trans ar).trans ax
 -- a value and a code are handed back
 have out:∀{wz:World} (v':Val) (k:Int) {c:Array Value},Pu w wz->wz.heap[w2.heap.size]?=some (.cells c 73)->c.size=3->zZO f p v=(v',k)->
   stA prog 73 (⟨w2.heap.size,0,none⟩:Addr) #[.int .i64 v'.kind,.int .i64 v'.n,.string v'.s] wz λw'=>∃n0:Int,w'.cell? ((⟨w2.heap.size,0,none⟩:Addr).add 0)=some (.int .i64 n0)/\∃n1:Int,w'.cell? ((⟨w2.heap.size,0,none⟩:Addr).add 1)=some (.int .i64 n1)/\
    ∃s2:ByteArray,w'.cell? ((⟨w2.heap.size,0,none⟩:Addr).add 2)=some (.string s2)/\(Ending.returned (.tuple #[.agg #[.int .i64 n0,.int .i64 n1,.string s2],.int .i64 k])=.returned (.tuple #[zJA (zZO f p v).1,.int .i64 (zZO f p v).2])/\Pu w w'):=λ{wz} v' k {c} h1 h2 h3 h4=>
  retV (R:=λe w'=>e=.returned (.tuple #[zJA (zZO f p v).1,.int .i64 (zZO f p v).2])/\Pu w w') v' k h2 h3 λw' hf=>⟨by rw[h4],h1.andNew hf λi hi=>by have hi:i=w2.heap.size:=hi;omega⟩
 have b1:∀{wz},Pu w3 wz->wz.heap[w.heap.size]?=some (.cells #[.string f.name,.int .i64 f.kind,.int .i64 f.width,.bool f.null] 129):=λh=>h.blk (ax.blk (ar.blk ay))
 have b2:∀{wz},Pu w3 wz->wz.heap[w1.heap.size]?=some (.cells #[.int .i64 v.kind,.int .i64 v.n,.string v.s] 73):=λh=>h.blk (ax.blk aN)
 have b3:∀{wz},Pu w3 wz->wz.heap[w2.heap.size]?=some (.cells #[.int .i64 0,.int .i64 0,.string ⟨#[]⟩] 73):=λh=>h.blk br
 have q0:=b1 (Pu.refl w3)
 refine⟨_,cl q0 0,_,cl q0 1,_,cl q0 2,_,cl q0 3,(yZ4 f hs w3).mono ?_⟩
 rintro e w4 ⟨rfl,aK⟩
 refine⟨_,rfl,Br.of (λd=>out noV 1 (aV.trans aK) (b3 aK) rfl (zJ1 (by simp at d;simp[d]))) (λd=>(yKs p w4).mono ?_)⟩
 have hfB:zQn f=true:=by simpa using d
 rintro e w5 ⟨rfl,aU⟩
 have ci:=aK.trans aU
 refine⟨_,rfl,Br.of (λd=>out noV 1 (aV.trans ci) (b3 ci) rfl (zJ1 (by simp at d;simp[d]))) (λd=>?_)⟩
 have hpB:zQW p=true:=by simpa using d
 have hB:(zQn f && zQW p)=true:=by rw[hfB,hpB];rfl
 refine⟨_,cl (b2 ci) 0,_,cl (b2 ci) 1,_,cl (b2 ci) 2,(xXU v w5).mono ?_⟩
 rintro e w6 ⟨rfl,bC⟩
 have cx:=ci.trans bC
 have eJ:=aV.trans cx
 refine⟨_,rfl,Br.of (λd=>out noV (zXi v) eJ (b3 cx) rfl (zKt hB (zQ1 d))) (λd=>?_)⟩
 have hv:=zQs d
 obtain⟨hvs,hvn,hv4⟩:=zKK hv
 have hF:=zJN (f:=f) (p:=p) hB hv
 refine⟨_,cl0 (b2 cx),Br.of (λd0=>⟨_,cl (b1 cx) 3,Br.of (λd1=>out noV 7 eJ (b3 cx) rfl ?_) (λd1=>⟨_,cl (b2 cx) 0,_,cl (b2 cx) 1,_,cl (b2 cx) 2,out v 0 eJ (b3 cx) rfl ?_⟩)⟩) (λd0=>?_)⟩
 ·rw[hF];unfold zQQ;rw[if_pos (zQE d0),show f.null=false by simpa using d1];rfl
 ·rw[hF];unfold zQQ;rw[if_pos (zQE d0),show f.null=true by simpa using d1];rfl
 have d0:=zQm d0
 refine zQc λw7 cH hh7=>⟨λu=>Pu w7 u,Pu.refl _,v.kind,λu hu=>cl0 (b2 ((cx.trans cH).trans hu)),f.name,λu hu=>cl (b1 ((cx.trans cH).trans hu)) 0,f.kind,λu hu=>cl (b1 ((cx.trans cH).trans hu)) 1,f.width,λu hu=>cl (b1 ((cx.trans cH).trans hu)) 2,f.null,λu hu=>cl (b1 ((cx.trans cH).trans hu)) 3,(yYE f w7).mono ?_⟩
 rintro e w8 ⟨rfl,cj⟩
 have iq:=(cx.trans cH).trans cj
 have dO:=aV.trans iq
 refine⟨_,_,_,rfl,cj,Br.of (λd1=>out noV 6 dO (b3 iq) rfl ?_) (λd1=>⟨_,cl (b1 iq) 1,?_⟩)⟩
 ·rw[hF];unfold zQQ;rw[if_neg d0,if_pos (zQ1 d1)]
 have d1:=zQs d1
 have qG:zZO f p v=if f.kind=4 then(if zXO (zZw (v.s.data.toList.take f.width.toNat)) p then(⟨4,0,bs (zZw (v.s.data.toList.take f.width.toNat))⟩,0)else(noV,10))else if zQO f p v then(v,0)else(noV,10):=by
  rw[hF];unfold zQQ;rw[if_neg d0,if_neg (by rw[d1];simp)]
 have mT:¬zXi v ≠ 0:=by omega
 -- what a value is that stays
 have stay:∀{wz:World},Pu w3 wz->zZO f p v=(v,0)->∃n0:Int,wz.cell? ((⟨w1.heap.size,0,none⟩:Addr).add 0)=some (.int .i64 n0)/\∃n1:Int,wz.cell? ((⟨w1.heap.size,0,none⟩:Addr).add 1)=some (.int .i64 n1)/\∃s2:ByteArray,wz.cell? ((⟨w1.heap.size,0,none⟩:Addr).add 2)=some (.string s2)/\
   stA prog 73 (⟨w2.heap.size,0,none⟩:Addr) #[.int .i64 n0,.int .i64 n1,.string s2] wz λw'=>∃n0:Int,w'.cell? ((⟨w2.heap.size,0,none⟩:Addr).add 0)=some (.int .i64 n0)/\∃n1:Int,w'.cell? ((⟨w2.heap.size,0,none⟩:Addr).add 1)=some (.int .i64 n1)/\
    ∃s2:ByteArray,w'.cell? ((⟨w2.heap.size,0,none⟩:Addr).add 2)=some (.string s2)/\(Ending.returned (.tuple #[.agg #[.int .i64 n0,.int .i64 n1,.string s2],.int .i64 0])=.returned (.tuple #[zJA (zZO f p v).1,.int .i64 (zZO f p v).2])/\Pu w w'):=λ{wz} h h2=>
  ⟨_,cl (b2 h) 0,_,cl (b2 h) 1,_,cl (b2 h) 2,out v 0 (aV.trans h) (b3 h) rfl h2⟩
 refine Br.of (λd2=>?_) (λd2=>Br.of (λd3=>?_) (λd3=>Br.of (λd4=>?_) (λd4=>?_)))
 ·have d2:=zQE d2
  obtain⟨wl,wh⟩:=zVO hfB d2
  rw[if_pos d2]at qG
  refine⟨_,cl (b2 iq) 2,_,cl (b2 iq) 2,_,cl (b1 iq) 2,_,w8,zYW _ _ _ _ _ _,by omega,by omega,by omega,(zYR _ (by have:=zQ7 v.s 0 (min (v.s.size:Int) f.width).toNat;have:=zQ3 (v.s.extract 0 (min (v.s.size:Int) f.width).toNat);simp at *;omega) w8).mono ?_⟩
  rintro e w9 ⟨rfl,cI⟩
  have et:(v.s.extract 0 (min (v.s.size:Int) f.width).toNat).data.toList=v.s.data.toList.take f.width.toNat:=by
   rw[zQ7,List.drop_zero];exact yKo _ _ _ (by simp) (by omega)
  rw[et]
  have rK:=iq.trans cI
  have hkind:v.kind=4:=by rw[d1];unfold zXp;rw[if_neg (by omega)];exact d2
  have pX:v.n=0:=by rw[hkind]at hvn;simpa[okN] using hvn
  have hbl:(bs (zZw (v.s.data.toList.take f.width.toNat))).size<=2048:=by
   rw[zQ8];have:=yXr (v.s.data.toList.take f.width.toNat);have:=List.length_take_le f.width.toNat v.s.data.toList;have:=List.length_take_le' f.width.toNat v.s.data.toList;rw[zQ3]at this;omega
  generalize hg:zZw (v.s.data.toList.take f.width.toNat)=B at *
  refine⟨_,rfl,?_⟩
  rw[zZn,zQr,Nat.zero_add]
  refine zQt (b2 rK) (show 2<3 by omega) λaO wL iG=>?_
  have mU:Fr (·=w1.heap.size) w9 aO:=by rw[wL];exact Fr.cell w9 _ 2 _
  have pP:aO.heap[w1.heap.size]?=some (.cells #[.int .i64 v.kind,.int .i64 v.n,.string (bs B)] 73):=iG
  have vO:Pu w aO:=(aV.trans rK).andNew mU λi hi=>by have hi:i=w1.heap.size:=hi;omega
  have pQ:=mU.blk (b3 rK) (show ¬w2.heap.size=w1.heap.size by omega)
  refine⟨_,cl pP 2,(xZY _ hbl hpB aO).mono ?_⟩
  rintro e aR ⟨rfl,fg⟩
  rw[zQN]
  refine⟨_,rfl,Br.of (λd3=>out noV 10 (vO.trans fg) (fg.blk pQ) rfl ?_) (λd3=>⟨_,cl (fg.blk pP) 0,_,cl (fg.blk pP) 1,_,cl (fg.blk pP) 2,?_⟩)⟩
  ·rw[qG,show zXO B p=false by simpa using d3];rfl
  ·rw[hkind,pX]
   exact out ⟨4,0,bs B⟩ 0 (vO.trans fg) (fg.blk pQ) rfl (by rw[qG,show zXO B p=true by simpa using d3];rfl)
 ·have d2:=zQm d2
  have d3:=zQE d3
  obtain⟨wl,wh⟩:=xYy hfB d3
  have hkind:v.kind=2:=by rw[d1];unfold zXp;rw[if_neg (by omega)];exact d3
  have hn:-1000000000000000<=v.n/\v.n<=1000000000000000:=by rw[hkind]at hvn;simpa[okN] using hvn
  have hfit:zQO f p v=decide (((zJh v.n).length:Int)<=f.width):=by
   unfold zQO;rw[if_neg mT,if_neg d0,if_neg (by omega),if_neg (by rw[hkind,d3];simp),if_pos d3]
  rw[if_neg d2,hfit]at qG
  refine⟨_,cl (b2 iq) 1,_,cl (b1 iq) 2,(str_c hn ⟨wl,by omega⟩ w8).mono ?_⟩
  rintro e w9 ⟨rfl,cI⟩
  have rK:=iq.trans cI
  refine⟨_,_,rfl,Br.of (λd4=>absurd rfl (zQ1 d4)) (λ_=>(xJw _ 42 w9).mono ?_)⟩
  rintro e aO ⟨rfl,dP⟩
  have jU:=rK.trans dP
  refine⟨_,rfl,?_⟩
  rw[zQN,yYi wl]
  refine Br.of (λd4=>out noV 10 (aV.trans jU) (b3 jU) rfl ?_) (λd4=>stay jU ?_)
  ·rw[qG,decide_eq_false (by have:=zQk d4;omega)];rfl
  ·rw[qG,decide_eq_true (by have:=zQd d4;omega)];rfl
 ·have d2:=zQm d2
  have d4:=zQE d4
  have hkind:v.kind=2:=by rw[d1];unfold zXp;rw[if_pos d4]
  have hfit:zQO f p v=zVG v.n:=by
   unfold zQO;rw[if_neg mT,if_neg d0,if_pos d4,hkind];rfl
  rw[if_neg d2,hfit]at qG
  refine⟨_,cl (b2 iq) 1,Br.of (λd5=>out noV 10 dO (b3 iq) rfl ?_) (λd5=>⟨_,cl (b2 iq) 1,Br.of (λd6=>out noV 10 dO (b3 iq) rfl ?_) (λd6=>stay iq ?_)⟩)⟩
  ·rw[qG,show zVG v.n=false by unfold zVG;rw[decide_eq_false (by have:=zQk d5;omega)];rfl];rfl
  ·rw[qG,show zVG v.n=false by unfold zVG;rw[decide_eq_false (show ¬v.n<=99999999 by have:=zQk d6;omega)];simp];rfl
  ·rw[qG,show zVG v.n=true by unfold zVG;rw[decide_eq_true (show 0<=v.n by have:=zQd d5;omega),decide_eq_true (show v.n<=99999999 by have:=zQd d6;omega)];rfl];rfl
 ·have d2:=zQm d2
  have d3:=zQm d3
  have d4:=zQm d4
  have hfit:zQO f p v=true:=by
   unfold zQO;rw[if_neg mT,if_neg d0,if_neg d4,if_neg (by rw[d1];unfold zXp;rw[if_neg d4];simp),if_neg d3,if_neg d2]
  rw[if_neg d2,hfit]at qG
  exact stay iq qG
end Go.Proofs.YtaeecpjhfmcliaaGreatDoor
