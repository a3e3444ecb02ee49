import Derived.Test.YtjbfehippchniaaGreatDoorPrOwD
import Derived.Test.YtjbfehippchniaaGreatDoorPrOwA
import Derived.Test.YtjbfehippchniaaGreatDoorPrPrA
import Derived.RangeFuncBox
import Derived.RangeFuncCalls
import Derived.RangeFuncFrom
import Derived.Shelf.Abstract
import Derived.Shelf.RegionOpen
import Derived.WalkKit
import Derived.OwnWalkIn
import Derived.TacticsInMore
import Derived.LoopNIn
import Derived.LoopIn
import Derived.Maps.AppendAt
import Derived.Test.YtjbfehippchniaaGreatDoorShTwentyTwo
import Derived.DataElems
import Derived.Test.YtjbfehippchniaaGreatDoorPxShelf
/- Lex (second seat): what a word stands for in a list, as both packages tell, and that the statement answers true. The signs: the library's tables of letters and of bytes. -/
set_option maxRecDepth 100000
set_option linter.unusedVariables false
set_option linter.unusedSimpArgs false
namespace Go.Proofs.YtjbfehippchniaaGreatDoor
open Go.Sh Go.Sh.Lx Go.RowKit
variable {w0 w w' : World}
theorem upperW_c(s:List UInt8)(hs:s.length<=140737488355328)(w:World):Calls Tryz.prog 75 #[.string (bs s)] w λe w'=>e=.returned (.string (bs (s.map capU)))/\Pu w w':=by
  refine calls_by (F75_calls _ w) λR hR=>?_
  obtain⟨l,w1,hrun,hp1,hm⟩:=conv_mark (P:=Tryz.prog) u9s u70s u5s (bs s) (by rw[bs_size];exact hs) w
  rw[bs_list]at hm
  refine⟨l,w1,hrun,?_⟩
  have hl0:=hm.len
  refine loopUp s.length (λk t w'=>t=(k:Int)/\Pu w w'/\MRow 5 w w' l ((s.take k).map capU ++ s.drop k)) ⟨rfl,hp1,hm⟩ ?_
  rintro k J t w2 hk ⟨rfl,hp2,hm2⟩ hJ
  have hl:=hm2.len
  have hlen:((s.take k).map capU ++ s.drop k).length=s.length:=by simp;omega
  refine Br.of (λq=>?_) (λq=>?_)
  · have q:=dtrue q
    have hk2:k<s.length:=by omega
    obtain⟨x,hx⟩:=at_k hk2
    have hgx:((s.take k).map capU ++ s.drop k)[k]?=some x:=by
      rw[List.getElem?_append_right (by simp;omega)]
      simp only[List.length_map,List.length_take,Nat.min_eq_left (Nat.le_of_lt hk2),Nat.sub_self]
      rw[get_drop];simpa using hx
    have hset:∀y,(((s.take k).map capU ++ s.drop k)).set k y=(s.take k).map capU ++ y :: s.drop (k+1):=λy=>by
      rw[List.set_append_right _ _ (by simp;omega)]
      simp only[List.length_map,List.length_take,Nat.min_eq_left (Nat.le_of_lt hk2),Nat.sub_self]
      rw[drop_at hx,List.set_cons_zero]
    have hnext:(s.take (k+1)).map capU ++ s.drop (k+1)=(s.take k).map capU ++ capU x :: s.drop (k+1):=by
      rw[take_at hx,List.map_append,List.append_assoc];rfl
    have same:capU x=x->J (IntKind.i64.wrap ((k:Int)+1)) w2:=λh=>by
      rw[wrap_in (by omega) (by omega)]
      refine hJ _ _ hk2 ⟨by omega,hp2,?_⟩
      rw[hnext,h,←drop_at hx];exact hm2
    obtain⟨a,ha,hc⟩:=hm2.cell hgx
    refine⟨a,ha,by omega,by omega,_,by rw[toNat_i];exact hc,Br.of (λq2=>Br.of (λq3=>?_) (λq3=>same ?_)) (λq2=>same ?_)⟩
    · have q2:=dtrue q2;have q3:=dtrue q3
      have e:(capU x).toNat=x.toNat - 32:=by
        have:∀n:Nat,n<256->97<=n->n<=122->(capU (UInt8.ofNat n)).toNat=n - 32:=by decide +kernel
        have h3:=this x.toNat x.toNat_lt (by omega) (by omega)
        rwa [UInt8.ofNat_toNat]at h3
      have ew:Value.int .u8 (IntKind.u8.wrap (((x.toNat:Nat):Int) - 32))=.int .u8 (((capU x).toNat:Nat):Int):=by
        rw[e,IntKind.wrap_u8];congr 1;omega
      rw[ew]
      obtain⟨a2,ha2,hst⟩:=hm2.st1 hp2 (j:=k) (by omega) (capU x) (K:=λw6=>J (IntKind.i64.wrap ((k:Int)+1)) w6) λw6 hm6 hp6=>by
        rw[wrap_in (by omega) (by omega)]
        refine hJ _ _ hk2 ⟨by omega,hp6,?_⟩
        rw[hnext,←hset];exact hm6
      exact⟨a2,ha2,by omega,by omega,by rw[toNat_i];exact hst⟩
    · have q3:=dfalse q3;unfold capU;rw[if_neg (by omega)]
    · have q2:=dfalse q2;unfold capU;rw[if_neg (by omega)]
  · have q:=dfalse q
    obtain rfl:k=s.length:=by omega
    have e:(s.take s.length).map capU ++ s.drop s.length=s.map capU:=by rw[List.take_length,List.drop_length,List.append_nil]
    rw[e]at hm2
    exact⟨_,w2,conv_text (P:=Tryz.prog) u9s u70s u5s hm2,hR _ _ ⟨rfl,hp2⟩⟩
theorem RdSl.wd {s:SV} {l:List ByteArray} (h:RdSl w s l) {i:Nat} {x:ByteArray} (hx:l[i]?=some x):∃a,s.a=some a/\(0:Int)<=(i:Int)/\(i:Int)<((s.len:Nat):Int)/\w.cell? (a.add (((i:Int)).toNat * 1))=some (.string x):=by
  obtain⟨a,ha,hi,hc⟩:=h.str hx
  exact⟨a,ha,by omega,by omega,by rw[toNat_i];exact hc⟩
theorem find_at{α:Type}{p:α->Bool}:∀{l:List α} {k:Nat} {x:α},l[k]?=some x->p x=true->(∀(j:Nat) (y:α),j<k->l[j]?=some y->p y=false)->l.find? p=some x
  | [],_,_,h,_,_=>by simp at h
  | a :: r,0,x,h,hp,_=>by
    have h:a=x:=by simpa using h
    rw[List.find?_cons,h,hp]
  | a :: r,k+1,x,h,hp,hb=>by
    rw[List.find?_cons,hb 0 a (by omega) rfl]
    exact find_at (by simpa using h) hp λj y hj hy=>hb (j+1) y (by omega) (by simpa using hy)
theorem find_none {α:Type} {p:α->Bool} {l:List α} (h:∀(j:Nat) (y:α),j<l.length->l[j]?=some y->p y=false):l.find? p=none:=by
  rw[List.find?_eq_none]
  intro x hx
  obtain⟨j,hj⟩:=List.getElem?_of_mem hx
  have:=h j x (List.getElem?_eq_some_iff.1 hj).1 hj
  simp[this]
def memB(x:ByteArray)(l:List ByteArray):Bool:=l.any λy=>decide (y=x)
theorem mem_yes {l:List ByteArray} {x y:ByteArray} {k:Nat} (hy:l[k]?=some y) (h:y=x):memB x l=true:=List.any_eq_true.2 ⟨y,List.mem_of_getElem? hy,decide_eq_true h⟩
theorem mem_no {l:List ByteArray} {x:ByteArray} (h:∀(j:Nat) (y:ByteArray),j<l.length->l[j]?=some y->y ≠ x):memB x l=false:=by
  unfold memB
  rw[List.any_eq_false]
  intro y hy
  obtain⟨j,hj⟩:=List.getElem?_of_mem hy
  simpa using h j y (List.getElem?_eq_some_iff.1 hj).1 hj
theorem contains_c{s:SV}{l:List ByteArray}(hs:RdSl w s l)(x:ByteArray):Calls Tryz.prog 76 #[.slice s.a s.len s.cap,.string x] w λe w'=>e=.returned (.bool (memB x l))/\Pu w w':=by
  have hsl:=hs.len
  have hlim:=hs.lim
  refine calls_by (F76_calls _ _ w) λR hR=>?_
  have h39:Calls Tryz.prog 113 #[.slice s.a s.len s.cap,.string x] w λe w'=>∃n:Int,e=.returned (.int .i64 n)/\decide (n ≥ 0)=memB x l/\Pu w w':=by
    refine calls_by (F113_calls _ _ w) λR hR=>?_
    refine loopUp l.length (λk n w'=>n=(k:Int)/\w'=w/\∀(j:Nat) (y:ByteArray),j<k->l[j]?=some y->y ≠ x) ⟨rfl,rfl,λj y h=>by omega⟩ ?_
    rintro k J n w1 hk ⟨rfl,rfl,hall⟩ hJ
    refine Br.of (λq=>?_) (λq=>?_)
    · have q:=dtrue q
      have hk2:k<l.length:=by omega
      obtain⟨y,hy⟩:=at_k hk2
      obtain⟨a,ha,h1,h2,hc⟩:=RdSl.wd hs hy
      refine⟨a,ha,h1,h2,_,hc,?_⟩
      rw[toList_beq]
      refine Br.of (λq2=>hR _ _ ⟨_,rfl,?_,Pu.refl _⟩) (λq2=>?_)
      · have q2:=dtrue q2
        rw[decide_eq_true (by omega),mem_yes hy q2.symm]
      · have q2:=dfalse q2
        rw[wrap_in (by omega) (by omega)]
        refine hJ _ _ hk2 ⟨by omega,rfl,λj z hj hz=>?_⟩
        by_cases e:j=k
        · subst e;rw[hy]at hz;cases hz;exact λh=>q2 h.symm
        · exact hall j z (by omega) hz
    · have q:=dfalse q
      refine hR _ _ ⟨_,rfl,?_,Pu.refl _⟩
      rw[decide_eq_false (by omega),mem_no λj y _ hy=>hall j y (by have:=(List.getElem?_eq_some_iff.1 hy).1;omega) hy]
  refine h39.mono ?_
  rintro e w1 ⟨n,rfl,hn,hp⟩
  exact⟨_,rfl,hR _ _ ⟨by rw[hn],hp⟩⟩
theorem in_c{s:SV}{l:List ByteArray}(hs:RdSl w s l)(x:ByteArray):Calls Tryz.prog 93 #[.slice s.a s.len s.cap,.string x] w λe w'=>e=.returned (.bool (memB x l))/\Pu w w':=by
  have hsl:=hs.len
  have hlim:=hs.lim
  refine calls_by (F93_calls _ _ w) λR hR=>?_
  refine loopUp l.length (λk n w'=>n=(k:Int)/\w'=w/\∀(j:Nat) (y:ByteArray),j<k->l[j]?=some y->y ≠ x) ⟨rfl,rfl,λj y h=>by omega⟩ ?_
  rintro k J n w1 hk ⟨rfl,rfl,hall⟩ hJ
  refine Br.of (λq=>?_) (λq=>?_)
  · have q:=dtrue q
    have hk2:k<l.length:=by omega
    obtain⟨y,hy⟩:=at_k hk2
    obtain⟨a,ha,h1,h2,hc⟩:=RdSl.wd hs hy
    refine⟨a,ha,h1,h2,_,hc,?_⟩
    rw[toList_beq]
    refine Br.of (λq2=>hR _ _ ⟨?_,Pu.refl _⟩) (λq2=>?_)
    · have q2:=dtrue q2
      rw[mem_yes hy q2]
    · have q2:=dfalse q2
      rw[wrap_in (by omega) (by omega)]
      refine hJ _ _ hk2 ⟨by omega,rfl,λj z hj hz=>?_⟩
      by_cases e:j=k
      · subst e;rw[hy]at hz;cases hz;exact q2
      · exact hall j z (by omega) hz
  · have q:=dfalse q
    refine hR _ _ ⟨?_,Pu.refl _⟩
    rw[mem_no λj y _ hy=>hall j y (by have:=(List.getElem?_eq_some_iff.1 hy).1;omega) hy]
def begB(u:List UInt8)(x:ByteArray):Bool:=decide (4<=u.length) && decide (x.data.toList.take u.length=u)
def fullS(u:List UInt8)(l:List ByteArray):ByteArray × Bool:=if memB (bs u) l=true then(bs u,true)else match l.find? (begB u)with
  | some x=>(x,true)
  | none=>(⟨#[]⟩,false)
theorem fullS_in {u:List UInt8} {l:List ByteArray} (h:memB (bs u) l=true):fullS u l=(bs u,true):=by unfold fullS;rw[if_pos h]
theorem fullS_some {u:List UInt8} {l:List ByteArray} {x:ByteArray} (h:memB (bs u) l=false) (hf:l.find? (begB u)=some x):fullS u l=(x,true):=by unfold fullS;rw[if_neg (by rw[h];decide),hf]
theorem fullS_none {u:List UInt8} {l:List ByteArray} (h:memB (bs u) l=false) (hf:l.find? (begB u)=none):fullS u l=(⟨#[]⟩,false):=by unfold fullS;rw[if_neg (by rw[h];decide),hf]
theorem beg_c (u:List UInt8) (x:ByteArray) {r:Nat} (hr:w.cell? (⟨r,0,none⟩:Addr)=some (.string (bs u))):Calls Tryz.prog 78 #[.string x,.pointer (some ⟨r,0,none⟩)] w λe w'=>e=.returned (.bool (begB u x))/\Pu w w':=by
  obtain⟨d,rfl,_⟩:=text_bs x
  refine calls_by (F78_calls _ _ w) λR hR=>⟨_,hr,Br.of (λq=>⟨_,hr,(hasPrefix_c d u w).mono ?_⟩) (λq=>hR _ _ ⟨?_,Pu.refl _⟩)⟩
  · have q:=dtrue q
    rw[bs_size]at q
    rintro e w1 ⟨rfl,rfl⟩
    refine⟨_,rfl,hR _ _ ⟨?_,Pu.refl _⟩⟩
    unfold begB
    rw[bs_list,decide_eq_true (p:=4<=u.length) (by omega),Bool.true_and]
  · have q:=dfalse q
    rw[bs_size]at q
    unfold begB
    rw[decide_eq_false (p:=4<=u.length) (by omega),Bool.false_and]
theorem full_c{s:SV}{l:List ByteArray}(hs:RdSl w s l)(d:List UInt8)(hd:d.length<=140737488355328):Calls Tryz.prog 42 #[.string (bs d),.slice s.a s.len s.cap] w λe w'=>e=.returned (.tuple #[.string (fullS (d.map capU) l).1,.bool (fullS (d.map capU) l).2])/\Pu w w':=by
  have hsl:=hs.len
  have hlim:=hs.lim
  refine calls_by (F42_calls _ _ w) λR hR=>alB λw1 hp1 hb1=>⟨_,cl0 hb1,(upperW_c d hd w1).mono ?_⟩
  rintro e w2 ⟨rfl,hp2⟩
  have hb2:=hp2.blk hb1
  refine⟨_,rfl,st1_intro hb2 (by simp) λw3 hw3 hb3=>?_⟩
  have hf3:Fr (·=w.heap.size) w2 w3:=by rw[hw3];exact Fr.setCell w2 ⟨w.heap.size,0,none⟩ _
  have hP3:Pu w w3:=Pu.andNew (hp1.trans hp2) hf3 (λi hi=>by rw[show i=_ from hi];exact Nat.le_refl _)
  have hc3:w3.cell? (⟨w.heap.size,0,none⟩:Addr)=some (.string (bs (d.map capU))):=by rw[cl0 hb3];rfl
  refine⟨_,hc3,(contains_c (hs.pu hP3) _).mono ?_⟩
  rintro e w4 ⟨rfl,hp4⟩
  have hP4:=hP3.trans hp4
  have hc4:=hp4.cell hc3
  refine⟨_,rfl,Br.of (λq=>⟨_,hc4,hR _ _ ⟨?_,hP4⟩⟩) (λq=>?_)⟩
  · rw[fullS_in q]
  have h24:Calls Tryz.prog 77 #[.slice s.a s.len s.cap,.func (.func 78) #[] #[.pointer (some (⟨w.heap.size,0,none⟩:Addr))]] w4 λe w'=>Pu w4 w'/\((e=.returned (.int .i64 (-1))/\l.find? (begB (d.map capU))=none)∨∃(k:Nat) (x:ByteArray),e=.returned (.int .i64 (k:Int))/\l[k]?=some x/\l.find? (begB (d.map capU))=some x):=by
    refine calls_by (F77_calls _ _ w4) λR hR=>?_
    refine loopUp l.length (λk n w'=>n=(k:Int)/\Pu w4 w'/\∀(j:Nat) (y:ByteArray),j<k->l[j]?=some y->begB (d.map capU) y=false) ⟨rfl,Pu.refl _,λj y h=>by omega⟩ ?_
    rintro k J n w5 hk ⟨rfl,hp5,hall⟩ hJ
    refine Br.of (λq1=>?_) (λq1=>?_)
    · have q1:=dtrue q1
      have hk2:k<l.length:=by omega
      obtain⟨y,hy⟩:=at_k hk2
      obtain⟨a,ha,h1,h2,hc⟩:=RdSl.wd (hs.pu (hP4.trans hp5)) hy
      refine⟨a,ha,h1,h2,_,hc,?_⟩
      rw[fnE_mk]
      refine⟨by kernel_rfl,(beg_c (d.map capU) y (hp5.cell hc4)).mono ?_⟩
      rintro e w6 ⟨rfl,hp6⟩
      refine⟨_,rfl,Br.of (λq2=>hR _ _ ⟨hp5.trans hp6,.inr ⟨k,y,rfl,hy,find_at hy q2 hall⟩⟩) (λq2=>?_)⟩
      rw[wrap_in (by omega) (by omega)]
      refine hJ _ _ hk2 ⟨by omega,hp5.trans hp6,λj z hj hz=>?_⟩
      by_cases e:j=k
      · subst e;rw[hy]at hz;cases hz;exact q2
      · exact hall j z (by omega) hz
    · have q1:=dfalse q1
      exact hR _ _ ⟨hp5,.inl ⟨rfl,find_none λj y _ hy=>hall j y (by have:=(List.getElem?_eq_some_iff.1 hy).1;omega) hy⟩⟩
  refine h24.mono ?_
  rintro e w6 ⟨hp6,⟨rfl,hn⟩|⟨k,x,rfl,hx,hf⟩⟩
  · refine⟨_,rfl,Br.t (decide_eq_true (by omega)) (hR _ _ ⟨?_,hP4.trans hp6⟩)⟩
    rw[fullS_none q hn]
  · obtain⟨a,ha,h1,h2,hc⟩:=RdSl.wd (hs.pu (hP4.trans hp6)) hx
    refine⟨_,rfl,Br.f (decide_eq_false (by omega)) ⟨a,ha,h1,h2,_,hc,hR _ _ ⟨?_,hP4.trans hp6⟩⟩⟩
    rw[fullS_some q hf]
theorem begins_c(x:ByteArray)(u:List UInt8)(w:World)(h4:4<=u.length):Calls Tryz.prog 92 #[.string x,.string (bs u)] w λe w'=>e=.returned (.bool (begB u x))/\Pu w w':=by
  obtain⟨d,rfl,_⟩:=text_bs x
  refine calls_by (F92_calls _ _ w) λR hR=>?_
  unfold F92_1
  rw[bs_size,bs_size]
  refine Br.of (λq=>⟨by omega,by rw[Int.toNat_natCast];have:=dtrue q;omega,by omega,hR _ _ ⟨?_,Pu.refl _⟩⟩) (λq=>hR _ _ ⟨?_,Pu.refl _⟩)
  · rw[toList_beq]
    unfold begB
    rw[bs_list,decide_eq_true (p:=4<=u.length) h4,Bool.true_and,Int.toNat_natCast]
    congr 2
    refine dec_eq ⟨λh=>?_,λh=>bytes_ext (by rw[extract_list,bs_list,bs_list,List.drop_zero];exact h)⟩
    have:=congrArg (λb:ByteArray=>b.data.toList) h
    simpa[extract_list] using this
  · have q:=dfalse q
    unfold begB
    rw[bs_list,decide_eq_false (p:=d.take u.length=u) (λh=>by have:=congrArg List.length h;rw[List.length_take]at this;omega),Bool.and_false]
theorem rfull_c{s:SV}{l:List ByteArray}(hs:RdSl w s l)(d:List UInt8)(hd:d.length<=140737488355328):Calls Tryz.prog 55 #[.string (bs d),.slice s.a s.len s.cap] w λe w'=>e=.returned (.tuple #[.string (fullS (d.map capU) l).1,.bool (fullS (d.map capU) l).2])/\Pu w w':=by
  have hsl:=hs.len
  have hlim:=hs.lim
  refine calls_by (F55_calls _ _ w) λR hR=>(capitals_c d hd w).mono ?_
  rintro e w1 ⟨rfl,hp1⟩
  refine⟨_,rfl,(in_c (hs.pu hp1) _).mono ?_⟩
  rintro e w2 ⟨rfl,hp2⟩
  have hP2:=hp1.trans hp2
  refine⟨_,rfl,Br.of (λq=>hR _ _ ⟨by rw[fullS_in q],hP2⟩) (λq=>?_)⟩
  refine loopUp l.length (λk n w'=>n=(k:Int)/\Pu w w'/\∀(j:Nat) (y:ByteArray),j<k->l[j]?=some y->begB (d.map capU) y=false) ⟨rfl,hP2,λj y h=>by omega⟩ ?_
  rintro k J n w5 hk ⟨rfl,hp5,hall⟩ hJ
  refine Br.of (λq1=>?_) (λq1=>?_)
  · have q1:=dtrue q1
    have hk2:k<l.length:=by omega
    obtain⟨y,hy⟩:=at_k hk2
    refine Br.of (λq2=>?_) (λq2=>hR _ _ ⟨?_,hp5⟩)
    · have q2:=dtrue q2
      rw[bs_size]at q2
      obtain⟨a,ha,h1,h2,hc⟩:=RdSl.wd (hs.pu hp5) hy
      refine⟨a,ha,h1,h2,_,hc,(begins_c y (d.map capU) w5 (by omega)).mono ?_⟩
      rintro e w6 ⟨rfl,hp6⟩
      refine⟨_,rfl,Br.of (λq3=>⟨a,ha,h1,h2,_,hp6.cell hc,hR _ _ ⟨?_,hp5.trans hp6⟩⟩) (λq3=>?_)⟩
      · rw[fullS_some q (find_at hy q3 hall)]
      · rw[wrap_in (by omega) (by omega)]
        refine hJ _ _ hk2 ⟨by omega,hp5.trans hp6,λj z hj hz=>?_⟩
        by_cases e:j=k
        · subst e;rw[hy]at hz;cases hz;exact q3
        · exact hall j z (by omega) hz
    · have q2:=dfalse q2
      rw[bs_size]at q2
      rw[fullS_none q (find_none λj y _ _=>by unfold begB;rw[decide_eq_false (p:=4<=(d.map capU).length) (by omega),Bool.false_and])]
  · have q1:=dfalse q1
    refine hR _ _ ⟨?_,hp5⟩
    rw[fullS_none q (find_none λj y _ hy=>hall j y (by have:=(List.getElem?_eq_some_iff.1 hy).1;omega) hy)]
end Go.Proofs.YtjbfehippchniaaGreatDoor

/- Pre: blanks, places outside of texts in quotes: the small functions. No condition but those stated. -/
set_option maxRecDepth 100000
set_option linter.unusedVariables false
set_option linter.unusedSimpArgs false
namespace Go.Proofs.YtjbfehippchniaaGreatDoor
open Go.Sh Go.Sh.Lx Go.Sh.Pr Go.RowKit
variable {w0 w w' : World}
theorem contains_blk(b:UInt8):([32,9]:List UInt8).contains b=Lx.blkB b:=by
  have:=all256 (p:=λb=>([32,9]:List UInt8).contains b == Lx.blkB b) (by decide +kernel) b
  simpa using this
theorem dw_app{p:UInt8->Bool}:∀{x:List UInt8} (y:List UInt8),(∃c ∈ x,p c=false)->(x ++ y).dropWhile p=x.dropWhile p ++ y
  | [],y,⟨c,hc,_⟩=>by cases hc
  | a :: x,y,⟨c,hc,hp⟩=>by
    rw[List.cons_append,List.dropWhile_cons,List.dropWhile_cons]
    by_cases ha:p a=true
    · rw[if_pos ha,if_pos ha]
      rcases List.mem_cons.1 hc with rfl|hc
      · rw[ha]at hp;cases hp
      · exact dw_app y ⟨c,hc,hp⟩
    · rw[if_neg ha,if_neg ha];rfl
theorem trim_swap(d:List UInt8):(d.reverse.dropWhile Lx.blkB).reverse.dropWhile Lx.blkB=((d.dropWhile Lx.blkB).reverse.dropWhile Lx.blkB).reverse:=by
  obtain⟨a,ha,he⟩:=dw_split (p:=Lx.blkB) d
  cases hv:d.dropWhile Lx.blkB with
  | nil=>
    rw[hv,List.append_nil]at he
    have:d.reverse.dropWhile Lx.blkB=[]:=(dropWhile_nil _ _).2 (List.all_eq_true.2 λc hc=>ha c (by rw[←he];exact List.mem_reverse.1 hc))
    rw[this];rfl
  | cons c v=>
    have hc:Lx.blkB c=false:=by
      have:=List.head?_dropWhile_not Lx.blkB d
      rw[hv]at this
      simpa using this
    rw[hv]at he
    rw[he,List.reverse_append,dw_app _ ⟨c,List.mem_reverse.2 (List.mem_cons_self ..),hc⟩,List.reverse_append,List.reverse_reverse,dw_all ha]
    rw[List.reverse_cons]
    have:∃t',((v.reverse ++ [c]).dropWhile Lx.blkB).reverse=c :: t':=by
      generalize v.reverse=u
      induction u with
      | nil=>exact⟨[],by rw[List.nil_append,List.dropWhile_cons,if_neg (by rw[hc];decide)];rfl⟩
      | cons a u ih=>
        rw[List.cons_append,List.dropWhile_cons]
        by_cases ha:Lx.blkB a=true
        · rw[if_pos ha];exact ih
        · rw[if_neg ha];exact⟨u.reverse ++ [a],by simp⟩
    obtain⟨t',ht⟩:=this
    rw[ht,List.dropWhile_cons,if_neg (by rw[hc];decide)]
theorem trimS_lib(d:List UInt8):Lib.trimS d [32,9]=trimS d:=by
  unfold Lib.trimS Lib.trimLeftS Lib.trimRightS trimS
  have:(([32,9]:List UInt8).contains ·)=Lx.blkB:=funext contains_blk
  simp only[this]
  exact trim_swap d
theorem trimmed_c(d:List UInt8)(hd:d.length<=4294967280)(w:World):Calls Tryz.prog 39 #[.string (bs d)] w λe w'=>e=.returned (.string (bs (trimS d)))/\Pu w w':=by
  refine F39_calls _ w _ ?_
  refine(Any.strings_Trim_ascii Tryz.lays160 (λw=>by kernel_rfl) (by kernel_rfl) (bs d) ⟨#[32,9]⟩ w (by rw[bs_size];omega) (by decide) (by
    intro j b hb
    have:b ∈ ([32,9]:List UInt8):=List.mem_of_getElem? hb
    simp at this;rcases this with rfl|rfl <;> decide)).mono ?_
  rintro e w1 ⟨rfl,hp⟩
  refine⟨_,rfl,?_⟩
  show _/\_
  refine⟨?_,hp⟩
  have:Lib.trimS (bs d).data.toList (⟨#[32,9]⟩:ByteArray).data.toList=trimS d:=by rw[bs_list];exact trimS_lib d
  rw[this]
theorem trimS_len(d:List UInt8):(trimS d).length<=d.length:=by
  unfold trimS
  rw[List.length_reverse]
  have h1:=(List.dropWhile_sublist (p:=Lx.blkB) (l:=(d.dropWhile Lx.blkB).reverse)).length_le
  have h2:=(List.dropWhile_sublist (p:=Lx.blkB) (l:=d)).length_le
  rw[List.length_reverse]at h1;omega
theorem uncS_len(d:List UInt8):(uncS d).length<=d.length:=by
  unfold uncS
  split
  · rw[List.length_take];omega
  · exact Nat.le_refl _
theorem hasSem_c(d:List UInt8)(hd:d.length<=4294967280)(w:World):Calls Tryz.prog 100 #[.string (bs d),.string (⟨#[59]⟩:ByteArray)] w λe w'=>e=.returned (.bool (semS d))/\w'=w:=by
  refine F100_calls _ _ w _ ((F90_calls _ _ w (λe w'=>e=.returned (.bool (semS d))/\w'=w) ?_).mono ?_)
  · have e1:(⟨#[59]⟩:ByteArray)=bs [59]:=rfl
    rw[e1]
    refine Br.of (λq=>?_) (λq=>?_)
    · have q:=dtrue q
      rw[bs_size_i,bs_size_i]at q
      rw[bs_size,bs_size]
      have hw:IntKind.i64.wrap (((d.length:Nat):Int) - (([59]:List UInt8).length:Nat))=((d.length - 1:Nat):Int):=by
        simp at q ⊢
        rw[wrap_in (by omega) (by omega)];omega
      rw[hw]
      simp at q
      refine⟨Nat.le_refl _,by omega,by omega,?_⟩
      show _/\_
      refine⟨?_,rfl⟩
      rw[toNat_i]
      have:(bs d).extract (d.length - 1) d.length=bs (d.drop (d.length - 1)):=by rw[←extract_drop,bs_size]
      rw[this,bs_beq]
      congr 2
      obtain⟨x,hx⟩:=at_k (l:=d) (k:=d.length - 1) (by omega)
      have h2:d.drop (d.length - 1)=[x]:=by rw[drop_at hx,List.drop_eq_nil_of_le (by omega)]
      rw[h2]
      unfold semS
      rw[List.getLast?_eq_getElem?,hx]
      exact dec_eq ⟨λh=>by rw[List.singleton_inj.1 h];rfl,λh=>by rw[show x=59 from UInt8.toNat_inj.1 h]⟩
    · have q:=dfalse q
      rw[bs_size_i,bs_size_i]at q
      have q:d.length=0:=by simp at q;omega
      obtain rfl:=List.eq_nil_of_length_eq_zero q
      exact⟨rfl,rfl⟩
  · rintro e w1 ⟨rfl,rfl⟩
    exact⟨_,rfl,rfl,rfl⟩
theorem one_prefix(b:UInt8)(d:List UInt8):decide (d.take [b].length=[b])=match d with
    | x :: _=>decide (x=b)
    | []=>false:=by
  cases d with
  | nil=>simp
  | cons x d=>simp
theorem star_c(d:List UInt8)(w:World):Calls Tryz.prog 41 #[.string (bs d),.string (⟨#[42]⟩:ByteArray)] w λe w'=>e=.returned (.bool (starS d))/\w'=w:=by
  refine(hasPrefix_c d [42] w).mono ?_
  rintro e w1 ⟨rfl,rfl⟩
  rw[one_prefix]
  refine⟨?_,rfl⟩
  cases d with
  | nil=>rfl
  | cons x d=>
    show _=Ending.returned (.bool (decide (x.toNat=42)))
    congr 2
    exact dec_eq ⟨λh=>by rw[h];rfl,λh=>UInt8.toNat_inj.1 h⟩
def headB(n:Nat)(d:List UInt8):Bool:=match d with
  | b :: _=>decide (b.toNat=n)
  | []=>false
theorem hash_c(d:List UInt8)(w:World):Calls Tryz.prog 41 #[.string (bs d),.string (⟨#[35]⟩:ByteArray)] w λe w'=>e=.returned (.bool (headB 35 d))/\w'=w:=by
  refine(hasPrefix_c d [35] w).mono ?_
  rintro e w1 ⟨rfl,rfl⟩
  rw[one_prefix]
  refine⟨?_,rfl⟩
  cases d with
  | nil=>rfl
  | cons x d=>
    show _=Ending.returned (.bool (decide (x.toNat=35)))
    congr 2
    exact dec_eq ⟨λh=>by rw[h];rfl,λh=>UInt8.toNat_inj.1 h⟩
end Go.Proofs.YtjbfehippchniaaGreatDoor

/- Pre: the iterator over the places outside of texts in quotes. No condition but those stated. -/
set_option maxRecDepth 100000
set_option linter.unusedVariables false
set_option linter.unusedSimpArgs false
namespace Go.Proofs.YtjbfehippchniaaGreatDoor
open Go.Sh Go.Sh.Lx Go.Sh.Pr Go.RowKit Go.Shelf
attribute [local go_sem] Oper.semAt_some
theorem idx_cnt(q:UInt8)(r:List UInt8):Lib.indexByte r q=if cnt q r<r.length then(cnt q r:Int)else -1:=indexByte_tw q r
theorem outside_c(d:List UInt8)(w:World):Calls Tryz.prog 73 #[.string (bs d)] w λe w'=>e=.returned (.func (.func 111) #[] #[.pointer (some ⟨w.heap.size,0,none⟩)])/\w'=w.alloc (.cells #[.string (bs d)] 9):=by
  refine F73_calls _ w _ (alE_intro λw1 hw1=>?_)
  exact⟨rfl,hw1⟩
theorem reg_in {n id m:Nat} {ops:Array Oper} {K:EP} {Q:Exit->Act->World->Prop} {a:Act} {w:World} (hf:fitsOps m ops=true) (hs:a.tmps.size=m) (h:drawnE Tryz.prog ops K (envOf a) a.defers w)
    (hK:∀a' w',a'.tmps.size=m->(∀t,asgOps ops.toList t=false->envOf a' t=envOf a t)->(noDefOps ops.toList=true->a'.defers=a.defers)->K (envOf a') a'.defers w'->Q .normal a' w') :
    (Code.region id ops true).wpIn Fence.wide n Tryz.prog Q a w:=
  wpIn_wide.2 (wp_mono (drawnE_sound (Q:=λe a' w'=>e=.normal/\Q .normal a' w') hf (λc a w h=>by cases h.1) hs (λa' w' hA hk=>⟨rfl,hK a' w' (hA.size.trans hs) hA.slots hA.defers hk⟩) h) (by
    rintro e a w ⟨rfl,h⟩;exact h))
theorem lit39(a:Array Value)(h:a.size=39):∃t0 t1 t2 t3 t4 t5 t6 t7 t8 t9 t10 t11 t12 t13 t14 t15 t16 t17 t18 t19 t20 t21 t22 t23 t24 t25 t26 t27 t28 t29 t30 t31 t32 t33 t34 t35 t36 t37 t38:Value,a=(t0 :: t1 :: t2 :: t3 :: t4 :: t5 :: t6 :: t7 :: t8 :: t9 :: t10 :: t11 :: t12 :: t13 :: t14 :: t15 :: t16 :: t17 :: t18 :: t19 :: t20 :: t21 :: t22 :: t23 :: t24 :: t25 :: t26 :: t27 :: t28 :: t29 :: t30 :: t31 :: t32 :: t33 :: t34 :: t35 :: t36 :: t37 :: t38 :: []).toArray:=by
  obtain⟨l⟩:=a
  match l,h with
  | t0 :: t1 :: t2 :: t3 :: t4 :: t5 :: t6 :: t7 :: t8 :: t9 :: t10 :: t11 :: t12 :: t13 :: t14 :: t15 :: t16 :: t17 :: t18 :: t19 :: t20 :: t21 :: t22 :: t23 :: t24 :: t25 :: t26 :: t27 :: t28 :: t29 :: t30 :: t31 :: t32 :: t33 :: t34 :: t35 :: t36 :: t37 :: t38 :: [],_=>exact⟨t0,t1,t2,t3,t4,t5,t6,t7,t8,t9,t10,t11,t12,t13,t14,t15,t16,t17,t18,t19,t20,t21,t22,t23,t24,t25,t26,t27,t28,t29,t30,t31,t32,t33,t34,t35,t36,t37,t38,rfl⟩
theorem dwE_at{w:World}{K:World->Prop}(h:K w.drew):dwE w K:=h
theorem enters111:∀args w,(callFunc 111 args).run Tryz.prog w=.ok (.enter 111 args) w:=λargs w=>run_callFunc (by kernel_rfl) args w
abbrev Pl(d:List UInt8):={ x:Nat // x<d.length }
def vals {d:List UInt8} (l:List (Pl d)):List Nat:=l.map Subtype.val
def KpC(c:Nat)(d:List UInt8)(A B:World):Prop:=A.cell? ⟨c,0,none⟩=some (.string (bs d))->B.cell? ⟨c,0,none⟩=some (.string (bs d))
theorem kpC_t{c:Nat}{d:List UInt8}{A B C:World}(h:KpC c d A B)(k:KpC c d B C):KpC c d A C:=λx=>k (h x)
theorem kpC_b {c:Nat} {d:List UInt8} {n:Nat} (W:World) (l:Nat) (o o':Obj) (_:n<=l) (h:W.heap[l]?=some o) (ho:o.isCells=false) (_:o.isWalk=false):KpC c d W (W.putObj l o'):=λx=>
  cell_kept x (grownBy_putObj' W l o') (λr e=>by cases e;exact⟨o,h,ho⟩)
theorem vals_snoc {d:List UInt8} (l:List (Pl d)) (x:Pl d):vals (l ++ [x])=vals l ++ [x.1]:=List.map_append
set_option maxHeartbeats 2000000 in
theorem outside1_in (n:Nat) (hn:1<=n) (l c:Nat) (d:List UInt8) (hd:d.length<=4294967280) (J Jx:List (Pl d)->World->Prop)
    (hY:∀pre x W,J pre W->pre.length<d.length+1->YieldAt Fence.wide (n - 1) Tryz.prog l #[.int .i64 ((x.1:Nat):Int)] W λe W'=>
      (e=.returned (.bool true)/\J (pre ++ [x]) W'/\KpC c d W W')∨(e=.returned (.bool false)/\Jx (pre ++ [x]) W'))
    (hJ:∀pre A,J pre A->J pre A.drew)
    (W:World) (hcW:W.cell? ⟨c,0,none⟩=some (.string (bs d))) (h0:J [] W) :
    CallsIn Fence.wide n Tryz.prog 111 #[.func (.yield l) #[] #[],.pointer (some ⟨c,0,none⟩)] W λe W'=>(∃v,e=.returned v)/\
      ((∃ys,vals ys=outS 0 0 d/\J ys W')∨(∃pre,vals pre <+: outS 0 0 d/\Jx pre W')):=by
  refine callsIn_of_wp Tryz.func111 rfl trivial ?_ rfl
  simp only[Tryz.ntmps111,List.size_toArray,List.length_cons,List.length_nil,Nat.reduceAdd,Nat.reduceSub,Array.replicate_succ,Array.replicate_zero,List.push_toArray,List.append_toArray,List.nil_append,List.cons_append]
  gi_wp2
  gi_loopw [3] (λi wr=>∃(k:Nat) (pre:List (Pl d)),k<=d.length/\pre.length<=k/\i=.int .i64 k/\J pre wr/\wr.cell? ⟨c,0,none⟩=some (.string (bs d))/\outS 0 0 d=vals pre ++ outS 0 k (d.drop k))
    (λi _=>d.length - (Go.RowKit.intOf i).toNat)
  case atStart=>exact⟨0,[],Nat.zero_le _,Nat.le_refl _,rfl,h0,hcW,rfl⟩
  case round=>
    obtain⟨k,pre,hk,hpk,rfl,hJs,hcr,ho⟩:=hrel
    have hcd:wr.drew.cell? ⟨c,0,none⟩=some (.string (bs d)):=(Pu.drew wr).cell hcr
    have hmx:Tryz.prog.follows .mixedOrders=true:=by kernel_rfl
    by_cases hlt:k<d.length
    · obtain⟨x,hx⟩:=at_k hlt
      have hsz:=bs_size d
      have hxg:(bs d)[k]'(by rw[hsz];exact hlt)=x:=by
        have:=bs_get hx
        rw[getElem?_pos (bs d) k (by rw[hsz];exact hlt)]at this
        exact Option.some.inj this
      rw[drop_at hx,outS_cons]at ho
      by_cases hq:isQ x=true
      · have hq2:x.toNat=34∨x.toNat=39:=by unfold isQ at hq;simpa using hq
        rcases hq2 with e|e
        · have e1:((x.toNat:Nat):Int)=34:=by omega
          gi_wp2
          refine reg_in (m:=39) (K:=λρ' ds' w'=>ρ' 4=.int .i64 (Lib.indexByte (d.drop (k+1)) x)/\w'=wr.drew) (by kernel_rfl) (by rfl) ?_ ?_
          · refine Eq.mpr (show _=(dwE wr λw3=>addrE (.pointer (some ⟨c,0,none⟩)) λa4=>∃s21:ByteArray,w3.cell? a4=some (.string s21)/\s21.size<=s21.size/\0<=(IntKind.i64.wrap ((k:Int)+1))/\(IntKind.i64.wrap ((k:Int)+1)).toNat<=s21.size/\
              addrE (.pointer (some ⟨c,0,none⟩)) λa5=>∃s25:ByteArray,w3.cell? a5=some (.string s25)/\∃b27:UInt8,0<=(k:Int)/\s25[(k:Int).toNat]?=some b27/\
              Calls Tryz.prog 112 #[.string (s21.extract ((IntKind.i64.wrap ((k:Int)+1)).toNat) s21.size),.int .u8 ((b27.toNat:Nat):Int)] w3 λe w6=>∃n28:Int,e=.returned (.int .i64 n28)/\((Value.int .i64 n28:Value)=.int .i64 (Lib.indexByte (d.drop (k+1)) x)/\w6=wr.drew))by kernel_rfl) ?_
            refine dwE_at ?_
            have hc3:wr.drew.cell? ⟨c,0,none⟩=some (.string (bs d)):=(Pu.drew wr).cell hcr
            rw[wrap_in (by omega) (by omega)]
            have e2:((k:Int)+1).toNat=k+1:=by omega
            refine⟨_,hc3,Nat.le_refl _,by omega,by rw[e2,hsz];omega,_,hc3,x,by omega,by rw[toNat_i];exact bs_get hx,?_⟩
            rw[e2,extract_drop]
            refine(indexByte_c _ _ _).mono ?_
            rintro e w6 ⟨rfl,rfl⟩
            refine⟨_,rfl,?_,rfl⟩
            congr 2
            rw[toNat_i];simp[Nat.toUInt8]
          · rintro⟨tm,df⟩ w' hsz' hsl hdf ⟨h4,rfl⟩
            obtain⟨t0,t1,t2,t3,t4,t5,t6,t7,t8,t9,t10,t11,t12,t13,t14,t15,t16,t17,t18,t19,t20,t21,t22,t23,t24,t25,t26,t27,t28,t29,t30,t31,t32,t33,t34,t35,t36,t37,t38,rfl⟩:=lit39 tm hsz'
            have z0:t0=.func (.yield l) #[] #[]:=hsl 0 rfl
            have z1:t1=.pointer (some ⟨c,0,none⟩):=hsl 1 rfl
            have z2:t2=undef:=hsl 2 rfl
            have z3:t3=.int .i64 k:=hsl 3 rfl
            have z4:t4=.int .i64 (Lib.indexByte (d.drop (k+1)) x):=h4
            have zd:df=[]:=hdf rfl
            subst z0 z1 z2 z3 z4 zd
            rw[idx_cnt]
            have hln:(d.drop (k+1)).length=d.length - (k+1):=List.length_drop
            by_cases hcl:cnt x (d.drop (k+1))<(d.drop (k+1)).length
            · rw[if_pos hcl]
              rw[hq,decide_eq_true hcl,if_pos (by decide),outS_skip (cnt x (d.drop (k+1))+1) (k+1)]at ho
              have hge:(0:Int)<=(cnt x (d.drop (k+1)):Nat):=by omega
              have hm:k+2+cnt x (d.drop (k+1))<=d.length:=by omega
              gi_wp2
              have hw:(k:Int)+(((cnt x (d.drop (k+1)):Nat):Int)+1)+1=((k+2+cnt x (d.drop (k+1)):Nat):Int):=by omega
              rw[hw]
              refine⟨⟨k+2+cnt x (d.drop (k+1)),pre,hm,by omega,rfl,hJ _ _ hJs,hcd,?_⟩,?_⟩
              · rw[ho,List.drop_drop]
                congr 2
                · omega
                · congr 1;omega
              · show d.length - (((k+2+cnt x (d.drop (k+1)):Nat):Int)).toNat<d.length - ((k:Int)).toNat
                rw[toNat_i,toNat_i];omega
            · rw[if_neg hcl]
              rw[hq,decide_eq_false hcl,Bool.and_false,if_neg (by decide)]at ho
              obtain⟨fn,tmps,assign,body,hy,hR⟩:=hY pre ⟨k,hlt⟩ wr.drew (hJ _ _ hJs) (by omega)
              gi_wp2
              refine hR.mono ?_
              rintro e W3 (⟨rfl,hJ3,hk3⟩|⟨rfl,hJx3⟩)
              · gi_wp2
                go_roundw
                case rel=>exact⟨k+1,pre ++ [⟨k,hlt⟩],hlt,by rw[List.length_append];simp;omega,by simp,hJ3,hk3 hcd,by rw[ho,vals_snoc,List.append_assoc];rfl⟩
                case measure=>simp[Go.RowKit.intOf];omega
              · gi_wp2
                refine bodyPost_ret (results_none rfl _ _ _) rfl ?_
                exact⟨⟨_,rfl⟩,.inr ⟨_,⟨outS 0 (k+1) (d.drop (k+1)),by rw[ho,vals_snoc,List.append_assoc];rfl⟩,hJx3⟩⟩
        · have e1:((x.toNat:Nat):Int)=39:=by omega
          gi_wp2
          refine reg_in (m:=39) (K:=λρ' ds' w'=>ρ' 4=.int .i64 (Lib.indexByte (d.drop (k+1)) x)/\w'=wr.drew) (by kernel_rfl) (by rfl) ?_ ?_
          · refine Eq.mpr (show _=(dwE wr λw3=>addrE (.pointer (some ⟨c,0,none⟩)) λa4=>∃s21:ByteArray,w3.cell? a4=some (.string s21)/\s21.size<=s21.size/\0<=(IntKind.i64.wrap ((k:Int)+1))/\(IntKind.i64.wrap ((k:Int)+1)).toNat<=s21.size/\
              addrE (.pointer (some ⟨c,0,none⟩)) λa5=>∃s25:ByteArray,w3.cell? a5=some (.string s25)/\∃b27:UInt8,0<=(k:Int)/\s25[(k:Int).toNat]?=some b27/\
              Calls Tryz.prog 112 #[.string (s21.extract ((IntKind.i64.wrap ((k:Int)+1)).toNat) s21.size),.int .u8 ((b27.toNat:Nat):Int)] w3 λe w6=>∃n28:Int,e=.returned (.int .i64 n28)/\((Value.int .i64 n28:Value)=.int .i64 (Lib.indexByte (d.drop (k+1)) x)/\w6=wr.drew))by kernel_rfl) ?_
            refine dwE_at ?_
            have hc3:wr.drew.cell? ⟨c,0,none⟩=some (.string (bs d)):=(Pu.drew wr).cell hcr
            rw[wrap_in (by omega) (by omega)]
            have e2:((k:Int)+1).toNat=k+1:=by omega
            refine⟨_,hc3,Nat.le_refl _,by omega,by rw[e2,hsz];omega,_,hc3,x,by omega,by rw[toNat_i];exact bs_get hx,?_⟩
            rw[e2,extract_drop]
            refine(indexByte_c _ _ _).mono ?_
            rintro e w6 ⟨rfl,rfl⟩
            refine⟨_,rfl,?_,rfl⟩
            congr 2
            rw[toNat_i];simp[Nat.toUInt8]
          · rintro⟨tm,df⟩ w' hsz' hsl hdf ⟨h4,rfl⟩
            obtain⟨t0,t1,t2,t3,t4,t5,t6,t7,t8,t9,t10,t11,t12,t13,t14,t15,t16,t17,t18,t19,t20,t21,t22,t23,t24,t25,t26,t27,t28,t29,t30,t31,t32,t33,t34,t35,t36,t37,t38,rfl⟩:=lit39 tm hsz'
            have z0:t0=.func (.yield l) #[] #[]:=hsl 0 rfl
            have z1:t1=.pointer (some ⟨c,0,none⟩):=hsl 1 rfl
            have z2:t2=undef:=hsl 2 rfl
            have z3:t3=.int .i64 k:=hsl 3 rfl
            have z4:t4=.int .i64 (Lib.indexByte (d.drop (k+1)) x):=h4
            have zd:df=[]:=hdf rfl
            subst z0 z1 z2 z3 z4 zd
            rw[idx_cnt]
            have hln:(d.drop (k+1)).length=d.length - (k+1):=List.length_drop
            by_cases hcl:cnt x (d.drop (k+1))<(d.drop (k+1)).length
            · rw[if_pos hcl]
              rw[hq,decide_eq_true hcl,if_pos (by decide),outS_skip (cnt x (d.drop (k+1))+1) (k+1)]at ho
              have hge:(0:Int)<=(cnt x (d.drop (k+1)):Nat):=by omega
              have hm:k+2+cnt x (d.drop (k+1))<=d.length:=by omega
              gi_wp2
              have hw:(k:Int)+(((cnt x (d.drop (k+1)):Nat):Int)+1)+1=((k+2+cnt x (d.drop (k+1)):Nat):Int):=by omega
              rw[hw]
              refine⟨⟨k+2+cnt x (d.drop (k+1)),pre,hm,by omega,rfl,hJ _ _ hJs,hcd,?_⟩,?_⟩
              · rw[ho,List.drop_drop]
                congr 2
                · omega
                · congr 1;omega
              · show d.length - (((k+2+cnt x (d.drop (k+1)):Nat):Int)).toNat<d.length - ((k:Int)).toNat
                rw[toNat_i,toNat_i];omega
            · rw[if_neg hcl]
              rw[hq,decide_eq_false hcl,Bool.and_false,if_neg (by decide)]at ho
              obtain⟨fn,tmps,assign,body,hy,hR⟩:=hY pre ⟨k,hlt⟩ wr.drew (hJ _ _ hJs) (by omega)
              gi_wp2
              refine hR.mono ?_
              rintro e W3 (⟨rfl,hJ3,hk3⟩|⟨rfl,hJx3⟩)
              · gi_wp2
                go_roundw
                case rel=>exact⟨k+1,pre ++ [⟨k,hlt⟩],hlt,by rw[List.length_append];simp;omega,by simp,hJ3,hk3 hcd,by rw[ho,vals_snoc,List.append_assoc];rfl⟩
                case measure=>simp[Go.RowKit.intOf];omega
              · gi_wp2
                refine bodyPost_ret (results_none rfl _ _ _) rfl ?_
                exact⟨⟨_,rfl⟩,.inr ⟨_,⟨outS 0 (k+1) (d.drop (k+1)),by rw[ho,vals_snoc,List.append_assoc];rfl⟩,hJx3⟩⟩
      · have hq2:x.toNat ≠ 34/\x.toNat ≠ 39:=by unfold isQ at hq;simpa using hq
        have e1:¬((x.toNat:Nat):Int)=34:=by omega
        have e2:¬((x.toNat:Nat):Int)=39:=by omega
        have hq3:isQ x=false:=by simpa using hq
        rw[hq3,Bool.false_and,if_neg (by decide)]at ho
        obtain⟨fn,tmps,assign,body,hy,hR⟩:=hY pre ⟨k,hlt⟩ wr hJs (by omega)
        gi_wp2
        · exfalso;simp_all
        · refine hR.mono ?_
          rintro e W3 (⟨rfl,hJ3,hk3⟩|⟨rfl,hJx3⟩)
          · gi_wp2
            go_roundw
            case rel=>exact⟨k+1,pre ++ [⟨k,hlt⟩],hlt,by rw[List.length_append];simp;omega,by simp,hJ3,hk3 hcr,by rw[ho,vals_snoc,List.append_assoc];rfl⟩
            case measure=>simp[Go.RowKit.intOf];omega
          · gi_wp2
            refine bodyPost_ret (results_none rfl _ _ _) rfl ?_
            exact⟨⟨_,rfl⟩,.inr ⟨_,⟨outS 0 (k+1) (d.drop (k+1)),by rw[ho,vals_snoc,List.append_assoc];rfl⟩,hJx3⟩⟩
    · obtain rfl:k=d.length:=by omega
      have hsz:=bs_size d
      rw[List.drop_length]at ho
      gi_wp2
      go_end0
      exact⟨⟨_,rfl⟩,.inl ⟨pre,by rw[ho];simp[outS],hJs⟩⟩
theorem outside_stops (n:Nat) (hn:1<=n) (c:Nat) (d:List UInt8) (hd:d.length<=4294967280) (w:World) (hc:c<w.heap.size) (hcw:w.cell? ⟨c,0,none⟩=some (.string (bs d))) :
    SeqStopsK Fence.wide n Tryz.prog 111 #[.pointer (some ⟨c,0,none⟩)] (λx:Pl d=>#[.int .i64 ((x.1:Nat):Int)]) (KpC c d) (λys=>vals ys=outS 0 0 d) (λpre=>vals pre <+: outS 0 0 d) (d.length+1) w:=λl J Jx W hW hJ _ hY h0=>
  outside1_in n hn l c d hd J Jx hY (λpre A h=>hJ pre A A.drew none h ⟨rfl,rfl,rfl,Nat.le_refl _,λ_ _ _=>rfl⟩ (λr e=>by cases e)) W ((hW.cell (p:=⟨c,0,none⟩) hc).trans hcw) h0
end Go.Proofs.YtjbfehippchniaaGreatDoor

/- Pre: a line without its comment; whether it goes on; a rule cut at its arrow. No condition but those stated. -/
set_option maxRecDepth 100000
set_option linter.unusedVariables false
set_option linter.unusedSimpArgs false
namespace Go.Proofs.YtjbfehippchniaaGreatDoor
open Go.Sh Go.Sh.Lx Go.Sh.Pr Go.RowKit Go.Shelf
attribute [local go_sem] Oper.semAt_some
theorem cell_new_l(W:World)(v:Value)(t:TypeId):(W.alloc (.cells #[v] t)).cell? ⟨W.heap.size,0,none⟩=some v/\(W.alloc (.cells #[v] t)).frozen? ⟨W.heap.size,0,none⟩=false:=
  ⟨by rw[cell_blk (alloc_new W _)];rfl,frozen_blk (alloc_new W _) 0⟩
theorem cell_alloc_l{W:World}{a:Addr}{v:Value}(o:Obj)(h:W.cell? a=some v):(W.alloc o).cell? a=some v:=cell_kept h (World.grownBy_alloc W o none) (λr e=>by cases e)
theorem frozen_alloc_l{W:World}{a:Addr}{v:Value}(o:Obj)(h:W.cell? a=some v)(hf:W.frozen? a=false):(W.alloc o).frozen? a=false:=(frozen_kept h (World.grownBy_alloc W o none) (λr e=>by cases e)).trans hf
theorem prefixA_c(s:ByteArray)(p:List UInt8)(w:World):Calls Tryz.prog 41 #[.string s,.string (bs p)] w λe w'=>e=.returned (.bool (decide (s.data.toList.take p.length=p)))/\w'=w:=by
  have:=hasPrefix_c s.data.toList p w
  rwa [list_bs]at this
set_option maxHeartbeats 2000000 in
theorem uncommented_c(d:List UInt8)(hd:d.length<=4294967280)(w:World):Calls Tryz.prog 40 #[.string (bs d)] w λe w'=>e=.returned (.string (bs (uncS d)))/\Pu w w':=by
  refine(callsIn_wide (n:=4)).1 ?_
  refine callsIn_of_wp_marks Tryz.func40 rfl trivial ?_ rfl
  simp only[Tryz.ntmps40,List.size_toArray,List.length_cons,List.length_nil,Nat.reduceAdd,Nat.reduceSub,Array.replicate_succ,Array.replicate_zero,List.push_toArray,List.append_toArray,List.nil_append,List.cons_append]
  gi_wp2_with (refine⟨trivial,?_⟩;gi_at_call 73;refine(callsIn_wide.2 (outside_c d _)).mono ?_;rintro e w' ⟨rfl,rfl⟩)
  have c0:=cell_new_l w (.string (bs d)) 9
  have c1:=cell_new_l (w.alloc (.cells #[.string (bs d)] 9)) (.string ByteArray.empty) 9
  have c2:=cell_new_l ((w.alloc (.cells #[.string (bs d)] 9)).alloc (.cells #[.string ByteArray.empty] 9)) (.string (bs d)) 9
  simp only[World.size_alloc]at c1 c2
  have hB0:Below w.heap.size w (((w.alloc (.cells #[.string (bs d)] 9)).alloc (.cells #[.string ByteArray.empty] 9)).alloc (.cells #[.string (bs d)] 9)):=(((Below.refl _ w).alloc (Nat.le_refl _) _).alloc (by simp) _).alloc (by simp;omega) _
  have hsz:=bs_size d
  refine wpIn_rangeFunc_ownF rfl (by omega) (gf:=111) (lb:=#[.pointer (some ⟨w.heap.size+1+1,0,none⟩)]) rfl trivial enters111
    (outside_stops 3 (by omega) (w.heap.size+1+1) d hd _ (by simp) c2.1) kpC_t kpC_b (Below.refl _ _) (λ_=>rfl)
    (λpre W=>((∀y ∈ vals pre,ampB (d.drop y)=false)/\W.cell? ⟨w.heap.size,0,none⟩=some (.string (bs d))/\W.cell? ⟨w.heap.size+1,0,none⟩=some (.string ByteArray.empty)/\W.frozen? ⟨w.heap.size+1,0,none⟩=false)/\Below w.heap.size w W)
    (λc pre W=>(c=.ret/\(∃i,(vals pre).find? (λi=>ampB (d.drop i))=some i/\W.cell? ⟨w.heap.size+1,0,none⟩=some (.string (bs (d.take i)))))/\Below w.heap.size w W)
    (OwnFrom.and (Own.from (λs A B row hs hg hr=>⟨hs.1,cell_kept hs.2.1 hg hr,cell_kept hs.2.2.1 hg hr,(frozen_kept hs.2.2.1 hg hr).trans hs.2.2.2⟩) _) (ownFrom_below (Nat.le_refl _) (by simp;omega)))
    (λc=>OwnFrom.and (Own.from (λs A B row hs hg hr=>⟨hs.1,let ⟨i,h1,h2⟩:=hs.2;⟨i,h1,cell_kept h2 hg hr⟩⟩) _) (ownFrom_below (Nat.le_refl _) (by simp;omega)))
    ⟨⟨λy hy=>(by cases hy),cell_alloc_l _ (cell_alloc_l _ c0.1),cell_alloc_l _ c1.1,frozen_alloc_l _ c1.1 c1.2⟩,hB0⟩
    (λx=>{ tmps:=#[.string (bs d),.pointer (some ⟨w.heap.size,0,none⟩),.pointer (some ⟨w.heap.size+1,0,none⟩),.int .i64 ((x.1:Nat):Int),.string (bs d),.func (.func 111) #[] #[.pointer (some ⟨w.heap.size+1+1,0,none⟩)],.int .i64 ((x.1:Nat):Int),undef,undef,undef,undef,undef,undef,undef,undef],defers:=[] }) ?assign ?body ?done ?stop
  case assign=>
    intro l x W K hK
    gi_wp2
    exact hK
  case body=>
    rintro l pre x W ⟨⟨hp,hcw,hcr,hfr⟩,hB⟩ _
    obtain⟨k,hk⟩:=x
    gi_wp2_with (refine⟨trivial,?_⟩;gi_at_call 41;refine(CallsIn.inRound l (callsIn_wide.2 (prefixA_c _ [38,38] _))).mono ?_;rintro e w' ⟨rfl,rfl⟩)
    · rename_i hx
      have ha:ampB (d.drop k)=true:=by
        rw[←ampB_take]
        rw[←List.length_drop,List.take_length]at hx
        exact decide_eq_true (by simpa using hx)
      refine⟨KeepsOthers.setCell _ _ _,⟨rfl,k,?_,?_⟩,hB.setCell (p:=⟨w.heap.size+1,0,none⟩) (by simp) _⟩
      · rw[vals_snoc,List.find?_append,Go.Sh.Pr.find_none hp,Option.none_or,List.find?_cons,ha]
      · have e:(bs d).extract 0 k=bs (d.take k):=by rw[extract_take,List.drop_zero]
        rw[←e]
        exact World.cell?_setCell_same' _ _ _ (by rw[hcr];rfl)
    · rename_i hx
      have ha:ampB (d.drop k)=false:=by
        rw[←ampB_take]
        refine decide_eq_false λh=>?_
        apply hx
        rw[←List.length_drop,List.take_length]
        simpa using h
      exact⟨KeepsOthers.refl _,λh=>h,⟨λy hy=>by
        rw[vals_snoc]at hy
        rcases List.mem_append.1 hy with hy|hy
        · exact hp y hy
        · obtain rfl:y=k:=by simpa using hy
          exact ha,hcw,hcr,hfr⟩,hB⟩
  case done=>
    rintro D ys W hD hys ⟨⟨hne,hcw,hcr,hfr⟩,hB⟩ hK
    have hu:uncS d=d:=by unfold uncS;rw[Go.Sh.Pr.find_none (L:=outS 0 0 d) (λi hi=>hne i (by rw[hys];exact hi))]
    gi_wp2
    have hK':=(KeepsOthers.setCell W ⟨w.heap.size+1,0,none⟩ (.string (bs d))).same D _ hK rfl
    refine⟨by simp,.inl ⟨_,_,rfl,run_takeDeferred hK',?_⟩⟩
    have hc5:=cell_kept (World.cell?_setCell_same' W ⟨w.heap.size+1,0,none⟩ (.string (bs d)) (by rw[hcr];rfl)) (grownBy_putObj' _ D (.deferred none)) (λr e=>by cases e;exact⟨_,hK',rfl⟩)
    refine⟨.string (bs d),?_,by rw[hu],(hB.setCell (p:=⟨w.heap.size+1,0,none⟩) (by simp) _).trans (belowK_b (w:=w) (Nat.le_refl _) _ D _ _ (by simp at hD;omega) hK' rfl rfl)⟩
    simp[results,Tryz.f40,go_sem,hc5]
  case stop=>
    rintro D c pre W hD hpre ⟨⟨rfl,i,hi,hcr⟩,hB⟩ hK
    have hu:uncS d=d.take i:=by
      obtain⟨s,hs⟩:=hpre
      unfold uncS;rw[←hs,List.find?_append,hi];rfl
    gi_wp2
    refine⟨by simp,.inl ⟨_,_,rfl,run_takeDeferred hK,?_⟩⟩
    have hc5:=cell_kept hcr (grownBy_putObj' _ D (.deferred none)) (λr e=>by cases e;exact⟨_,hK,rfl⟩)
    refine⟨.string (bs (d.take i)),?_,by rw[hu],hB.trans (belowK_b (w:=w) (Nat.le_refl _) W D _ _ (by simp at hD;omega) hK rfl rfl)⟩
    simp[results,Tryz.f40,go_sem,hc5]
theorem hasSemA_c(d:List UInt8)(hd:d.length<=4294967280)(w:World):Calls Tryz.prog 100 #[.string (bs d),.string { data:=#[59] }] w λe w'=>e=.returned (.bool (semS d))/\w'=w:=hasSem_c d hd w
theorem starA_c(d:List UInt8)(w:World):Calls Tryz.prog 41 #[.string (bs d),.string { data:=#[42] }] w λe w'=>e=.returned (.bool (starS d))/\w'=w:=star_c d w
def lastI(l:List Nat):Int:=match l.getLast? with
  | some k=>(k:Int)
  | none=>-1
theorem lastI_snoc(l:List Nat)(k:Nat):lastI (l ++ [k])=(k:Int):=by unfold lastI;rw[List.getLast?_concat]
theorem last_dec {s:List UInt8} (h:s ≠ []):decide (lastI (outS 0 0 s)=(s.length:Int) - 1)=decide ((outS 0 0 s).getLast?=some (s.length - 1)):=by
  have hl:1<=s.length:=List.length_pos_iff.2 h
  unfold lastI
  cases (outS 0 0 s).getLast? with
  | none=>exact dec_eq ⟨λh=>by dsimp only at h;omega,λh=>by cases h⟩
  | some k=>exact dec_eq ⟨λh=>by dsimp only at h;congr 1;omega,λh=>by have:=Option.some.inj h;dsimp only;omega⟩
theorem goes_end {d:List UInt8} {bg:Bool} (hl:(trimS (uncS d)).length<=4294967280) (hst:(starS (trimS (uncS d)) && !bg)=false) (hsem:semS (trimS (uncS d))=true) :
    (lastI (outS 0 0 (trimS (uncS d))) == ((trimS (uncS d)).length:Int) - 1)=goesS d bg:=by
  have hne:trimS (uncS d) ≠ []:=λe=>by rw[e]at hsem;cases hsem
  have hg:goesS d bg=decide ((outS 0 0 (trimS (uncS d))).getLast?=some ((trimS (uncS d)).length - 1)):=by
    unfold goesS
    rw[hst,hsem,if_neg (by decide)]
  rw[hg,←last_dec hne]
  exact beq_dec _ _
theorem ret_false {n:Nat} {R:Ending->World->Prop} (a:Act) (w:World) (hd:a.defers=[]) (h:R (.returned (.bool false)) w) (h4:a.tmps.getD 4 undef=.bool false:=by rfl):bodyPostM Fence.wide n Tryz.prog Tryz.f68 R .ret a w:=by
  obtain⟨tm,df⟩:=a
  subst hd
  show LeavesInM Fence.wide n Tryz.prog Tryz.f68 tm R [] .returning w
  refine⟨_,results_tmp rfl _ _ _,?_⟩
  rw[show _=Value.bool false from h4]
  exact h
set_option maxHeartbeats 2000000 in
theorem pgoes_c(d:List UInt8)(hd:d.length<=4294967280)(bg:Bool)(w:World):Calls Tryz.prog 68 #[.string (bs d),.bool bg] w λe w'=>e=.returned (.bool (goesS d bg))/\Pu w w':=by
  have hsl:(trimS (uncS d)).length<=4294967280:=by have:=trimS_len (uncS d);have:=uncS_len d;omega
  have hul:(uncS d).length<=4294967280:=by have:=uncS_len d;omega
  refine(callsIn_wide (n:=4)).1 ?_
  refine callsIn_of_wp_marks Tryz.func68 rfl trivial ?_ rfl
  simp only[Tryz.ntmps68,List.size_toArray,List.length_cons,List.length_nil,Nat.reduceAdd,Nat.reduceSub,Array.replicate_succ,Array.replicate_zero,List.push_toArray,List.append_toArray,List.nil_append,List.cons_append]
  have hfin:∀w4:World,Pu w w4->goesS d bg=false->(λe w'=>e=Ending.returned (.bool (goesS d bg))/\Pu w w') (.returned (.bool false)) w4:=λw4 hp h=>⟨by rw[h],hp⟩
  gi_wp2_with (first
    | (refine⟨trivial,?_⟩;gi_at_call 40;refine(callsIn_wide.2 (uncommented_c d hd _)).mono ?_;rintro e w1 ⟨rfl,hp1⟩)
    | (refine⟨trivial,?_⟩;gi_at_call 39;refine(callsIn_wide.2 (trimmed_c (uncS d) hul _)).mono ?_;rintro e w2 ⟨rfl,hp2⟩)
    | (refine⟨trivial,?_⟩;gi_at_call 100;refine(callsIn_wide.2 (hasSemA_c (trimS (uncS d)) hsl _)).mono ?_;rintro e w4 ⟨rfl,rfl⟩)
    | (refine⟨trivial,?_⟩;gi_at_call 41;refine(callsIn_wide.2 (starA_c (trimS (uncS d)) _)).mono ?_;rintro e w3 ⟨rfl,rfl⟩)
    | (refine⟨trivial,?_⟩;gi_at_call 73;refine(callsIn_wide.2 (outside_c (trimS (uncS d)) _)).mono ?_;rintro e w5 ⟨rfl,rfl⟩))
  · exact ret_false _ _ rfl (hfin _ (hp1.trans hp2) (by unfold goesS;rw[if_pos (by simp_all)]))
  · have hsem:semS (trimS (uncS d))=true:=by simp_all
    have hst:(starS (trimS (uncS d)) && !bg)=false:=by simp_all
    have hP:Pu w w4:=hp1.trans hp2
    have c0:=cell_new_l w4 (.int .i64 (-1)) 3
    have c2:=cell_new_l (w4.alloc (.cells #[.int .i64 (-1)] 3)) (.string (bs (trimS (uncS d)))) 9
    simp only[World.size_alloc]at c2
    have hB0:Below w4.heap.size w4 ((w4.alloc (.cells #[.int .i64 (-1)] 3)).alloc (.cells #[.string (bs (trimS (uncS d)))] 9)):=((Below.refl _ w4).alloc (Nat.le_refl _) _).alloc (by simp) _
    refine wpIn_rangeFunc_ownF rfl (by omega) (gf:=111) (lb:=#[.pointer (some ⟨w4.heap.size+1,0,none⟩)]) rfl trivial enters111
      (outside_stops 3 (by omega) (w4.heap.size+1) (trimS (uncS d)) hsl _ (by simp) c2.1) kpC_t kpC_b (Below.refl _ _) (λ_=>rfl)
      (λpre W=>(W.cell? ⟨w4.heap.size,0,none⟩=some (.int .i64 (lastI (vals pre)))/\W.frozen? ⟨w4.heap.size,0,none⟩=false)/\Below w4.heap.size w4 W)
      (λ_ _ _=>False)
      (OwnFrom.and (Own.from (λs A B row hs hg hr=>⟨cell_kept hs.1 hg hr,(frozen_kept hs.1 hg hr).trans hs.2⟩) _) (ownFrom_below (Nat.le_refl _) (by simp;omega)))
      (λ_ _ _ _ _ hs _ _=>hs)
      ⟨⟨cell_alloc_l _ c0.1,frozen_alloc_l _ c0.1 c0.2⟩,hB0⟩
      (λx=>{ tmps:=#[.string (bs d),.bool true,undef,undef,.bool false,.string (bs (trimS (uncS d))),.pointer (some ⟨w4.heap.size,0,none⟩),.int .i64 ((x.1:Nat):Int),.string (bs d),.string (bs (uncS d)),.string (bs (trimS (uncS d))),.string (bs (trimS (uncS d))),.bool true,.bool true,.bool true,.bool false,.bool false,.bool false,.string (bs (trimS (uncS d))),.bool true,.bool false,.bool false,.string (bs (trimS (uncS d))),.func (.func 111) #[] #[.pointer (some ⟨w4.heap.size+1,0,none⟩)],.int .i64 ((x.1:Nat):Int),undef,undef,undef,undef,undef,undef],defers:=[] }) ?assign ?body ?done ?stop
    case assign=>
      intro l x W K hK
      gi_wp2
      exact hK
    case body=>
      rintro l pre x W ⟨⟨hc,hf⟩,hB⟩ _
      gi_wp2
      refine⟨KeepsOthers.setCell _ _ _,λh=>(World.cell?_of_block (setCell_other (by simp))).trans h,⟨?_,by rw[World.frozen?_setCell];exact hf⟩,hB.setCell (p:=⟨w4.heap.size,0,none⟩) (by simp) _⟩
      rw[vals_snoc,lastI_snoc]
      exact World.cell?_setCell_same' _ _ _ (by rw[hc];rfl)
    case done=>
      rintro D ys W hD hys ⟨⟨hc,hf⟩,hB⟩ hK
      rw[hys]at hc
      have hsz:=bs_size (trimS (uncS d))
      gi_wp2
      refine⟨by simp,.inl ⟨_,_,rfl,run_takeDeferred hK,?_⟩⟩
      refine⟨_,results_tmp rfl _ _ _,?_,hP.trans (hB.trans (belowK_b (w:=w4) (Nat.le_refl _) W D _ _ (by simp at hD;omega) hK rfl rfl))⟩
      have he:=goes_end hsl hst hsem
      show Ending.returned (.bool (lastI (outS 0 0 (trimS (uncS d))) == ((trimS (uncS d)).length:Int) - 1))=_
      rw[he]
    case stop=>
      rintro D c pre W _ _ h _
      exact h.elim
  · refine⟨trivial,?_⟩
    gi_wp2
    exact ret_false _ _ rfl (hfin _ (hp1.trans hp2) (by unfold goesS;rw[if_pos (by simp_all)]))
  · exact ret_false _ _ rfl (hfin _ (hp1.trans hp2) (by unfold goesS;rw[if_pos (by simp_all)]))
  · have hsem:semS (trimS (uncS d))=true:=by simp_all
    have hst:(starS (trimS (uncS d)) && !bg)=false:=by simp_all
    have hP:Pu w w4:=hp1.trans hp2
    have c0:=cell_new_l w4 (.int .i64 (-1)) 3
    have c2:=cell_new_l (w4.alloc (.cells #[.int .i64 (-1)] 3)) (.string (bs (trimS (uncS d)))) 9
    simp only[World.size_alloc]at c2
    have hB0:Below w4.heap.size w4 ((w4.alloc (.cells #[.int .i64 (-1)] 3)).alloc (.cells #[.string (bs (trimS (uncS d)))] 9)):=((Below.refl _ w4).alloc (Nat.le_refl _) _).alloc (by simp) _
    refine wpIn_rangeFunc_ownF rfl (by omega) (gf:=111) (lb:=#[.pointer (some ⟨w4.heap.size+1,0,none⟩)]) rfl trivial enters111
      (outside_stops 3 (by omega) (w4.heap.size+1) (trimS (uncS d)) hsl _ (by simp) c2.1) kpC_t kpC_b (Below.refl _ _) (λ_=>rfl)
      (λpre W=>(W.cell? ⟨w4.heap.size,0,none⟩=some (.int .i64 (lastI (vals pre)))/\W.frozen? ⟨w4.heap.size,0,none⟩=false)/\Below w4.heap.size w4 W)
      (λ_ _ _=>False)
      (OwnFrom.and (Own.from (λs A B row hs hg hr=>⟨cell_kept hs.1 hg hr,(frozen_kept hs.1 hg hr).trans hs.2⟩) _) (ownFrom_below (Nat.le_refl _) (by simp;omega)))
      (λ_ _ _ _ _ hs _ _=>hs)
      ⟨⟨cell_alloc_l _ c0.1,frozen_alloc_l _ c0.1 c0.2⟩,hB0⟩
      (λx=>{ tmps:=#[.string (bs d),.bool bg,undef,undef,.bool false,.string (bs (trimS (uncS d))),.pointer (some ⟨w4.heap.size,0,none⟩),.int .i64 ((x.1:Nat):Int),.string (bs d),.string (bs (uncS d)),.string (bs (trimS (uncS d))),.string (bs (trimS (uncS d))),.bool false,.bool false,undef,undef,.bool false,.bool false,.string (bs (trimS (uncS d))),.bool true,.bool false,.bool false,.string (bs (trimS (uncS d))),.func (.func 111) #[] #[.pointer (some ⟨w4.heap.size+1,0,none⟩)],.int .i64 ((x.1:Nat):Int),undef,undef,undef,undef,undef,undef],defers:=[] }) ?assign ?body ?done ?stop
    case assign=>
      intro l x W K hK
      gi_wp2
      exact hK
    case body=>
      rintro l pre x W ⟨⟨hc,hf⟩,hB⟩ _
      gi_wp2
      refine⟨KeepsOthers.setCell _ _ _,λh=>(World.cell?_of_block (setCell_other (by simp))).trans h,⟨?_,by rw[World.frozen?_setCell];exact hf⟩,hB.setCell (p:=⟨w4.heap.size,0,none⟩) (by simp) _⟩
      rw[vals_snoc,lastI_snoc]
      exact World.cell?_setCell_same' _ _ _ (by rw[hc];rfl)
    case done=>
      rintro D ys W hD hys ⟨⟨hc,hf⟩,hB⟩ hK
      rw[hys]at hc
      have hsz:=bs_size (trimS (uncS d))
      gi_wp2
      refine⟨by simp,.inl ⟨_,_,rfl,run_takeDeferred hK,?_⟩⟩
      refine⟨_,results_tmp rfl _ _ _,?_,hP.trans (hB.trans (belowK_b (w:=w4) (Nat.le_refl _) W D _ _ (by simp at hD;omega) hK rfl rfl))⟩
      have he:=goes_end hsl hst hsem
      show Ending.returned (.bool (lastI (outS 0 0 (trimS (uncS d))) == ((trimS (uncS d)).length:Int) - 1))=_
      rw[he]
    case stop=>
      rintro D c pre W _ _ h _
      exact h.elim
end Go.Proofs.YtjbfehippchniaaGreatDoor

/- Pre: the tokens of a line; tokens with the names that they came out of, and their text. No condition but those stated. -/
set_option maxRecDepth 100000
set_option linter.unusedVariables false
set_option linter.unusedSimpArgs false
namespace Go.Proofs.YtjbfehippchniaaGreatDoor
open Go.Sh Go.Sh.Lx Go.Sh.Pr Go.RowKit Go.Shelf
variable {w0 w w' : World}
theorem rd_sub {α:Type} [Enc α] {s:SV} {l:List α} (h:RdSl w s l) {lo hi:Nat} (h1:lo<=hi) (h2:hi<=l.length) (a:Option Addr) (n c:Nat) (ha:a=if s.cap=lo then s.a else s.a.map (λx=>x.add (lo * Enc.sz α))) (hn:n=hi - lo) (hc:c=s.cap - lo) :
    RdSl w ⟨a,n,c⟩ ((l.take hi).drop lo):=by
  subst ha hn hc
  have hl:=h.len
  have hcp:=h.cap
  have hlm:=h.lim
  refine⟨by simp;omega,by dsimp only;omega,by dsimp only;omega,λi x hx=>?_⟩
  rw[List.getElem?_drop,List.getElem?_take]at hx
  split at hx
  · rename_i hi2
    obtain⟨b,hb,vs,k1,k2⟩:=h.get _ _ hx
    have hlt:=(List.getElem?_eq_some_iff.1 hx).1
    dsimp only
    rw[if_neg (by omega),hb]
    refine⟨_,rfl,vs,k1,λj v hv=>?_⟩
    have:=k2 j v hv
    rw[Nat.add_mul,←Addr.add_add]at this
    exact this
  · cases hx
structure Ft where
  t:Tok
  fr:List ByteArray
instance:Enc Ft where
  sz:=4
  rd w vs x:=∃s:SV,vs=tokV x.t ++ [.slice s.a s.len s.cap]/\RdSl w s x.fr/\In64 x.t.kind/\In64 x.t.at_
  len h:=by obtain⟨s,h,_⟩:=h;rw[h];rfl
  pu hp h:=let ⟨s,h1,h2,h3⟩:=h;⟨s,h1,h2.pu hp,h3⟩
def ftV(x:Tok × SV):List Value:=tokV x.1 ++ [.slice x.2.a x.2.len x.2.cap]
theorem ftV_len(x:Tok × SV):(ftV x).length=4:=rfl
theorem RdSl.ft {s:SV} {l:List Ft} (h:RdSl w s l) {i:Nat} {x:Ft} (hx:l[i]?=some x):∃(a:Addr) (f:SV),s.a=some a/\(0:Int)<=(i:Int)/\(i:Int)<((s.len:Nat):Int)/\RdSl w f x.fr/\In64 x.t.kind/\In64 x.t.at_/\
    w.cell? ((a.add (((i:Int)).toNat * 4)).add 0)=some (.int .i64 x.t.kind)/\w.cell? ((a.add (((i:Int)).toNat * 4)).add 1)=some (.int .i64 x.t.at_)/\w.cell? ((a.add (((i:Int)).toNat * 4)).add 2)=some (.string x.t.text)/\w.cell? ((a.add (((i:Int)).toNat * 4)).add 3)=some (.slice f.a f.len f.cap):=by
  obtain⟨a,ha,vs,⟨f,rfl,h2,h3,h4⟩,hc⟩:=h.get i x hx
  have hl:=h.len
  have hlt:=(List.getElem?_eq_some_iff.1 hx).1
  rw[toNat_i]
  exact⟨a,f,ha,by omega,by omega,h2,h3,h4,hc 0 _ rfl,hc 1 _ rfl,hc 2 _ rfl,hc 3 _ rfl⟩
theorem rd_fts {s:SV} {L:List (Tok × SV)} {l:List Ft} (h:RowAt w 112 4 s (L.flatMap ftV)) (hl:L.length=l.length) (hlim:l.length<=100000)
    (hm:∀(i:Nat) (x:Tok × SV) (y:Ft),L[i]?=some x->l[i]?=some y->y.t=x.1/\RdSl w x.2 y.fr/\In64 x.1.kind/\In64 x.1.at_):RdSl w s l:=by
  have hlen:=h.len ftV_len (by decide)
  have hcap:=h.le_cap
  refine⟨by omega,hcap.1,by omega,λi y hy=>?_⟩
  have hlt:=(List.getElem?_eq_some_iff.1 hy).1
  obtain⟨x,hx⟩:=at_k (l:=L) (k:=i) (by omega)
  obtain⟨e,k1,k2,k3⟩:=hm i x y hx hy
  obtain⟨a,ha,_,c0⟩:=h.elem ftV_len hx (o:=0) rfl
  obtain⟨a1,ha1,_,c1⟩:=h.elem ftV_len hx (o:=1) rfl
  obtain⟨a2,ha2,_,c2⟩:=h.elem ftV_len hx (o:=2) rfl
  obtain⟨a3,ha3,_,c3⟩:=h.elem ftV_len hx (o:=3) rfl
  rw[ha]at ha1 ha2 ha3
  cases ha1;cases ha2;cases ha3
  refine⟨a,ha,ftV x,⟨x.2,by rw[e];rfl,k1,by rw[e];exact k2,by rw[e];exact k3⟩,λj v hv=>?_⟩
  match j,hv with
  | 0,hv=>cases hv;exact c0
  | 1,hv=>cases hv;exact c1
  | 2,hv=>cases hv;exact c2
  | 3,hv=>cases hv;exact c3
theorem end83_c(t:Tok)(w:World):Calls Tryz.prog 83 #[.agg (tokV t).toArray] w λe w'=>e=.returned (.bool (decide (t.kind=5)))/\Pu w w':=by
  refine calls_by (F83_calls _ _ _ w) λR hR=>alB λw1 hp1 hb1=>⟨_,cl0 hb1,hR _ _ ⟨?_,hp1⟩⟩
  rw[beq_dec]
def endI(l:List Tok):Int:=match endP l with
  | some k=>(k:Int)
  | none=>-1
theorem endIdx_c{s:SV}{l:List Tok}(hs:RdSl w s l):Calls Tryz.prog 82 #[.slice s.a s.len s.cap,.func (.func 83) #[] #[]] w λe w'=>e=.returned (.int .i64 (endI l))/\Pu w w':=by
  have hsl:=hs.len
  have hlim:=hs.lim
  refine calls_by (F82_calls _ _ w) λR hR=>loopUp l.length (λk n w'=>n=(k:Int)/\Pu w w'/\∀(j:Nat) (y:Tok),j<k->l[j]?=some y->y.kind ≠ 5) ⟨rfl,Pu.refl _,λj y h=>by omega⟩ ?_
  rintro k J n w1 hk ⟨rfl,hp1,hall⟩ hJ
  refine Br.of (λq=>?_) (λq=>?_)
  · have q:=dtrue q
    have hk2:k<l.length:=by omega
    obtain⟨t,ht⟩:=at_k hk2
    obtain⟨a,ha,h1,h2,ck,c0,c1,c2⟩:=RdSl.tok (hs.pu hp1) ht
    refine⟨a,ha,h1,h2,_,c0,_,c1,_,c2,?_⟩
    rw[fnE_mk]
    refine⟨by decide +kernel,(end83_c t w1).mono ?_⟩
    rintro e w2 ⟨rfl,hp2⟩
    refine⟨_,rfl,Br.of (λq2=>hR _ _ ⟨?_,hp1.trans hp2⟩) (λq2=>?_)⟩
    · have q2:=dtrue q2
      have:endP l=some k:=by
        unfold endP
        rw[List.findIdx?_eq_some_iff_getElem]
        have e:=List.getElem?_eq_some_iff.1 ht
        refine⟨hk2,?_,λj hj=>?_⟩
        · rw[e.2];exact decide_eq_true q2
        · have:=hall j (l[j]'(by omega)) hj (List.getElem?_eq_getElem _)
          simpa using this
      unfold endI;rw[this]
    · have q2:=dfalse q2
      rw[wrap_in (by omega) (by omega)]
      refine hJ _ _ hk2 ⟨by omega,hp1.trans hp2,λj z hj hz=>?_⟩
      by_cases e:j=k
      · subst e;rw[ht]at hz;cases hz;exact q2
      · exact hall j z (by omega) hz
  · have q:=dfalse q
    refine hR _ _ ⟨?_,hp1⟩
    have:endP l=none:=by
      unfold endP
      rw[List.findIdx?_eq_none_iff]
      intro x hx
      obtain⟨j,hj⟩:=List.mem_iff_getElem?.1 hx
      have:=hall j x (by have:=(List.getElem?_eq_some_iff.1 hj).1;omega) hj
      simpa using this
    unfold endI;rw[this]
theorem z_set {l:List Tok} {k:Nat} {x:Tok} (hx:l[k]?=some x):((l.take k).map zT ++ l.drop k).set k (zT x)=(l.take (k+1)).map zT ++ l.drop (k+1):=by
  have hlt:=(List.getElem?_eq_some_iff.1 hx).1
  rw[drop_at hx,take_at hx,List.map_append,List.append_assoc]
  have e:((l.take k).map zT).length=k:=by rw[List.length_map,List.length_take];omega
  rw[List.set_append_right _ _ (by omega),e,Nat.sub_self];rfl
theorem z_get {l:List Tok} {k:Nat} {x:Tok} (hx:l[k]?=some x):((l.take k).map zT ++ l.drop k)[k]?=some x:=by
  have hlt:=(List.getElem?_eq_some_iff.1 hx).1
  have e:((l.take k).map zT).length=k:=by rw[List.length_map,List.length_take];omega
  rw[List.getElem?_append_right (by omega),e,Nat.sub_self,drop_at hx];rfl
theorem lexF_kinds{d:List UInt8}(hd:d.length<=140737488355328):∀t ∈ (lexF d).1,In64 t.kind/\In64 t.at_:=by
  intro t ht
  obtain⟨h1,h2,h3⟩:=lexS_bounds d.length d 0 false (Nat.le_refl _)
  have:t ∈ (lexS d 0 false).1:=by
    revert ht
    unfold lexF
    split
    · intro h;cases h
    · split
      · intro h;cases h
      · split
        · intro h;cases h
        · exact id
  obtain⟨a,b,c,e⟩:=h1 t this
  exact⟨⟨by omega,by omega⟩,by omega,by omega⟩
def tokV2(d:List UInt8):List Tok:=(tokP d).getD []
theorem lexF_len(d:List UInt8):(lexF d).1.length<=1200:=by
  unfold lexF
  split
  · exact Nat.zero_le _
  · split
    · exact Nat.zero_le _
    · split
      · exact Nat.zero_le _
      · dsimp only;omega
theorem tokens_c(hL:Laid w0)(d:List UInt8)(hd:d.length<=140737488355328):Calls Tryz.prog 47 #[.string (bs d)] w0 λe w'=>Pu w0 w'/\∃(s:SV) (b:Bool),e=.returned (.tuple #[.slice s.a s.len s.cap,.bool b])/\b=(tokP d).isSome/\(b=true->RdSl w' s (tokV2 d)):=by
  refine calls_by (F47_calls _ w0) λR hR=>(lexR_c hL d (by omega)).mono ?_
  rintro e w1 ⟨hp1,s,rfl,hrd,hrow,hnew⟩
  refine⟨s,_,_,rfl,?_⟩
  refine Br.of (λq=>hR _ _ ⟨hp1,⟨none,0,0⟩,false,rfl,?_,λh=>by cases h⟩) (λq=>?_)
  · have q:=bntrue q
    unfold tokP;rw[if_pos q];rfl
  · have q:(lexF d).2.2=0:=bnfalse q
    have hsl:=hrd.len
    have hlim:=hrd.lim
    have hkd:=lexF_kinds hd
    have hll:=lexF_len d
    generalize hT:(lexF d).1=T at *
    have tl:∀x:Tok,(tokV x).length=3:=λ_=>rfl
    refine loopUp T.length (λk n w'=>n=(k:Int)/\Pu w0 w'/\RowAt w' 30 3 s (((T.take k).map zT ++ T.drop k).flatMap tokV)) ⟨rfl,hp1,by rw[List.take_zero,List.drop_zero];exact hrow⟩ ?_
    rintro k J n w2 hk ⟨rfl,hp2,hr2⟩ hJ
    refine Br.of (λq2=>?_) (λq2=>?_)
    · have q2:=dtrue q2
      have hk2:k<T.length:=by omega
      obtain⟨x,hx⟩:=at_k hk2
      obtain⟨a,ha,hst⟩:=hr2.stField tl (i:=k) (o:=1) (by rw[List.length_append,List.length_map,List.length_take,List.length_drop];omega) (by decide) (zT x) (.int .i64 0) (λy hy=>by rw[z_get hx]at hy;cases hy;rfl) (K:=λw'=>J (IntKind.i64.wrap ((k:Int)+1)) w') λw3 h3 hf3 _=>by
        rw[wrap_in (by omega) (by omega)]
        refine hJ _ _ hk2 ⟨by omega,hp2.andNew hf3 (λi hi=>hnew i hi),?_⟩
        rw[z_set hx]at h3;exact h3
      refine⟨a,ha,by omega,by omega,?_⟩
      rw[toNat_i];exact hst
    · have q2:=dfalse q2
      have hr3:RowAt w2 30 3 s (rowOf (Z T)):=by
        have:k=T.length:=by omega
        subst this
        rw[List.take_length,List.drop_length,List.append_nil]at hr2;exact hr2
      have hz:(Z T).length=T.length:=List.length_map _
      have hrd2:RdSl w2 s (Z T):=rd_toks hr3 (λt ht=>by
        obtain⟨u,hu,rfl⟩:=List.mem_map.1 ht
        exact⟨(hkd u hu).1,⟨show(-9223372036854775808:Int)<=0 by decide,show(0:Int)<=9223372036854775807 by decide⟩⟩) (by omega)
      unfold F47_1
      refine(endIdx_c hrd2).mono ?_
      rintro e w3 ⟨rfl,hp3⟩
      refine⟨_,rfl,?_⟩
      have hP:=hp2.trans hp3
      have hcp:=hrd2.cap
      cases he:endP (Z T)with
      | none=>
        have e1:endI (Z T)=-1:=by unfold endI;rw[he]
        have e2:tokP d=some []:=by unfold tokP;rw[if_neg (by omega),hT,he]
        rw[e1]
        refine Br.t (decide_eq_true (by omega)) (hR _ _ ⟨hP,⟨none,0,0⟩,true,rfl,by rw[e2];rfl,λ_=>?_⟩)
        unfold tokV2;rw[e2];exact RdSl.nil _ _ _
      | some i=>
        have hi:i<(Z T).length:=by
          unfold endP at he
          exact(List.findIdx?_eq_some_iff_getElem.1 he).1
        have e1:endI (Z T)=(i:Int):=by unfold endI;rw[he]
        rw[e1]
        refine Br.f (decide_eq_false (by omega)) ⟨by omega,by rw[toNat_i];omega,by omega,?_⟩
        rw[wrap_in (by omega) (by omega)]
        have e3:((i:Int) == ((s.len:Nat):Int) - 1)=decide (i+1=(Z T).length):=by
          rw[beq_dec];exact dec_eq (by omega)
        rw[e3]
        refine hR _ _ ⟨hP,⟨_,_,_⟩,_,rfl,?_,λhb=>?_⟩
        · unfold tokP;rw[if_neg (by omega),hT,he]
          dsimp only
          split
          · rename_i h;rw[decide_eq_true h];rfl
          · rename_i h;rw[decide_eq_false h];rfl
        · have hb:=of_decide_eq_true hb
          have e2:tokV2 d=((Z T).take i).drop 0:=by unfold tokV2 tokP;rw[if_neg (by omega),hT,he];dsimp only;rw[if_pos hb];rfl
          rw[e2]
          exact rd_sub (hrd2.pu hp3) (lo:=0) (hi:=i) (Nat.zero_le _) (by omega) _ _ _ rfl (by rw[toNat_i]) rfl
end Go.Proofs.YtjbfehippchniaaGreatDoor

/- Pre: tokens that came out of no names; the text of tokens. No condition but those stated. -/
set_option maxRecDepth 100000
set_option linter.unusedVariables false
set_option linter.unusedSimpArgs false
namespace Go.Proofs.YtjbfehippchniaaGreatDoor
open Go.Sh Go.Sh.Lx Go.Sh.Pr Go.RowKit Go.Shelf
variable {w0 w w' : World}
theorem info112:(Tryz.prog.info? 112).map (λi=>(i.zero,i.size,i.bytes))=some (some (.agg #[.int .i64 0,.int .i64 0,.string ⟨#[]⟩,.slice none 0 0]),4,56):=by kernel_rfl
theorem ftV_one(x:Tok × SV):∀u ∈ ftV x,u.oneCell'=true:=by
  intro u hu
  simp[ftV,tokV]at hu
  rcases hu with rfl|rfl|rfl|rfl <;> rfl
theorem push_ft {s:SV} {L:List (Tok × SV)} (h:RowAt w 112 4 s (L.flatMap ftV)) (hl:L.length<=100000) {r:Nat} (x:Tok × SV) (hb:w.heap[r]?=some (.cells #[.int .i64 x.1.kind,.int .i64 x.1.at_,.string x.1.text,.slice x.2.a x.2.len x.2.cap] 112)) :
    ∃(s':SV) (w':World),(Builtin.append_ #[84,84] 84 #[.slice s.a s.len s.cap,.slice (some ⟨r,0,none⟩) 1 1]).run Tryz.prog w=.ok (.slice s'.a s'.len s'.cap) w'/\RowAt w' 112 4 s' ((L ++ [x]).flatMap ftV)/\Fr (· ∈ blkOf s) w w'/\(∀k ∈ blkOf s',k ∈ blkOf s∨w.heap.size<=k):=by
  have hsl:=h.len ftV_len (by decide)
  obtain⟨s',w',h1,h2,h3,h4,_⟩:=row_append_any (P:=Tryz.prog) (t:=84) (ty:=84) Tryz.underlying84 info112 rfl (by decide) h (A:=some ⟨r,0,none⟩) (m:=1) (c:=1) (news:=ftV x) rfl (λj u hu=>⟨_,rfl,by rw[cl hb];simpa[ftV,tokV] using hu⟩) (ftV_one x) (by omega)
  refine⟨s',w',h1,?_,h3,h4⟩
  rw[List.flatMap_append];simpa using h2
def NewR(w0:World)(s:SV):Prop:=∀k ∈ blkOf s,w0.heap.size<=k
def hid(t:Tok):Ft:=⟨t,[]⟩
theorem hidden_c{s:SV}{l:List Tok}(hs:RdSl w0 s l)(hl:l.length<=1200):Calls Tryz.prog 48 #[.slice s.a s.len s.cap] w0 λe w'=>∃s':SV,e=.returned (.slice s'.a s'.len s'.cap)/\RdSl w' s' (l.map hid)/\Pu w0 w':=by
  have hsl:=hs.len
  have hlim:=hs.lim
  have key:∀t ∈ l,In64 t.kind/\In64 t.at_:=λt ht=>by
    obtain⟨i,hi⟩:=List.mem_iff_getElem?.1 ht
    obtain⟨a,ha,_,k1,k2,_⟩:=tokAt hs hi
    exact⟨k1,k2⟩
  refine calls_by (F48_calls _ w0) λR hR=>loopUp l.length (λk t w'=>∃s':SV,t=(s',(k:Int))/\RowAt w' 112 4 s' (((l.take k).map λt=>(t,(⟨none,0,0⟩:SV))).flatMap ftV)/\NewR w0 s'/\Pu w0 w') ⟨_,rfl,RowAt.nil _ _ _,by simp[NewR,blkOf],Pu.refl _⟩ ?_
  rintro k J t w2 hk ⟨s',rfl,hr,hn,hp⟩ hJ
  dsimp only
  refine Br.of (λq=>?_) (λq=>?_)
  · have q:=dtrue q
    have hk2:k<l.length:=by omega
    obtain⟨t,ht⟩:=at_k hk2
    obtain⟨a,ha,h1,h2,ck,c0,c1,c2⟩:=RdSl.tok (hs.pu hp) ht
    refine⟨a,ha,h1,h2,_,c0,_,c1,_,c2,?_⟩
    refine boxA (zs:=#[.int .i64 0,.int .i64 0,.string (⟨#[]⟩:ByteArray)]) rfl (by kernel_rfl) rfl λw3 hp3 hz3 hb3=>?_
    refine⟨_,cl hb3 0,_,cl hb3 1,_,cl hb3 2,alB λw4 hp4 hb4=>?_⟩
    obtain⟨s2,w5,hrun,hr5,hf5,hn5⟩:=push_ft (hr.pu (hp3.trans hp4)) (by rw[List.length_map,List.length_take];omega) (t,⟨none,0,0⟩) hb4
    refine⟨s2,w5,hrun,?_⟩
    rw[wrap_in (by omega) (by omega)]
    have hP:Pu w0 w4:=hp.trans (hp3.trans hp4)
    refine hJ _ _ hk2 ⟨s2,by rw[show(k:Int)+1=((k+1:Nat):Int)by omega],?_,λi hi=>?_,hP.andNew hf5 λi hi=>hn i hi⟩
    · rw[take_at ht,List.map_append];exact hr5
    · rcases hn5 i hi with h|h
      · exact hn i h
      · have:=hP.size;omega
  · have q:=dfalse q
    have:k=l.length:=by omega
    subst this
    rw[List.take_length]at hr
    refine hR _ _ ⟨s',rfl,rd_fts hr (by simp) (by simp;omega) λi x y hx hy=>?_,hp⟩
    rw[List.getElem?_map]at hx hy
    obtain⟨u,hu,rfl⟩:=Option.map_eq_some_iff.1 hx
    rw[hu]at hy
    cases hy
    obtain⟨k1,k2⟩:=key u (List.mem_of_getElem? hu)
    exact⟨rfl,RdSl.nil _ _ _,k1,k2⟩
theorem wrtP_bs(k a:Int)(x:List UInt8):wrtP ⟨k,a,bs x⟩=wrtL k x:=by unfold wrtP;rw[bs_list]
theorem wrt_len(k:Int)(x:List UInt8):x.length<=(wrtL k x).length:=by
  unfold wrtL
  split
  · split <;> simp <;> omega
  · split
    · split
      · rename_i h;subst h;simp
      · simp;omega
    · exact Nat.le_refl _
theorem written_c(t:Tok)(f:SV)(ht:t.text.size<=140737488355328)(hd:dateOk t)(w:World):Calls Tryz.prog 88 #[.agg (ftV (t,f)).toArray] w λe w'=>e=.returned (.string (bs (wrtP t)))/\Pu w w':=by
  obtain⟨k,a,s⟩:=t
  obtain⟨x,rfl,hx⟩:=text_bs s
  have hxl:x.length<=140737488355328:=by have h:=ht;rw[bs_size]at h;exact h
  rw[wrtP_bs]
  unfold wrtL
  refine calls_by (F88_calls _ _ _ _ w) λR hR=>alB λw1 hp1 hb1=>⟨_,cl0 hb1,?_⟩
  refine Br.of (λq=>⟨_,cl hb1 2,(quote_c x w1).mono ?_⟩) (λq=>?_)
  · have q:k=2:=btrue q
    rw[if_pos q]at hR
    rintro e w2 ⟨rfl,rfl⟩
    refine⟨_,rfl,Br.of (λq2=>?_) (λq2=>⟨_,cl0 hb1,Br.t (beq_iff_eq.2 q) ?_⟩)⟩
    · rw[if_pos q2]at hR
      obtain⟨z1,z2⟩:=cat1_le 39 39 x hxl
      exact⟨_,cl hb1 2,z1,z2,hR _ _ ⟨by rw[quoted_cat],hp1⟩⟩
    · rw[if_neg (by rw[q2];simp)]at hR
      obtain⟨z1,z2⟩:=cat1_le 34 34 x hxl
      exact⟨_,cl hb1 2,z1,z2,hR _ _ ⟨by rw[quoted_cat],hp1⟩⟩
  · have q:¬k=2:=bfalse q
    rw[if_neg q]at hR
    refine⟨_,cl0 hb1,Br.f (by rw[beq_dec];exact decide_eq_false q) ⟨_,cl0 hb1,?_⟩⟩
    refine Br.of (λq2=>⟨_,cl hb1 2,Br.of (λq3=>?_) (λq3=>⟨_,cl0 hb1,Br.t q2 ?_⟩)⟩) (λq2=>?_)
    · have q2:k=3:=btrue q2
      rw[toList_beq]at q3
      have q3:bs x=bs []:=dtrue q3
      have q3:=bs_inj.1 q3
      rw[if_pos q2,if_pos q3]at hR
      exact hR _ _ ⟨rfl,hp1⟩
    · have q2:k=3:=btrue q2
      rw[toList_beq]at q3
      have q3:¬bs x=bs []:=dfalse q3
      have q3:x ≠ []:=λh=>q3 (by rw[h])
      rw[if_pos q2,if_neg q3]at hR
      have h8:x.length=8:=by
        have:=hd q2
        dsimp only at this
        rw[bs_size]at this
        rcases this with h|h
        · exact absurd (List.eq_nil_of_length_eq_zero h) q3
        · exact h
      refine dwE_intro λw2 hp2 _=>?_
      have hb2:=hp2.blk hb1
      have hsz:(bs x).size=8:=by rw[bs_size];exact h8
      obtain⟨z1,z2,z3,z4,z5,z6⟩:=date_sizes h8
      refine⟨_,cl hb2 2,by omega,by rw[hsz];decide,by omega,z1,z2,_,cl hb2 2,by omega,by rw[hsz];decide,by omega,by decide,z3,z4,_,cl hb2 2,Nat.le_refl _,by omega,by rw[hsz];decide,z5,z6,hR _ _ ⟨?_,hp1.trans hp2⟩⟩
      rw[date_text h8]
    · have q2:¬k=3:=bfalse q2
      rw[if_neg q2]at hR
      first
        | exact⟨_,cl hb1 2,hR _ _ ⟨rfl,hp1⟩⟩
        | exact⟨_,cl0 hb1,Br.f (by rw[beq_dec];exact decide_eq_false q2) ⟨_,cl hb1 2,hR _ _ ⟨rfl,hp1⟩⟩⟩
theorem join_eq(l:List Tok):Lib.join (l.map wrtP) [32]=joinP l:=by
  cases l with
  | nil=>rfl
  | cons t l=>
    rw[List.map_cons,Lib.join_cons]
    unfold Lib.joinTail joinP
    congr 1
    rw[List.map_map,List.flatMap_def]
    rfl
theorem join_le:∀(l:List Tok) (t:Tok),t ∈ l->(wrtP t).length<=(joinP l).length:=by
  intro l t ht
  cases l with
  | nil=>cases ht
  | cons u l=>
    unfold joinP
    rcases List.mem_cons.1 ht with rfl|ht
    · simp
    · obtain⟨a,b,rfl⟩:=List.append_of_mem ht
      simp;omega
theorem tokP_text {l:List Tok} (hz:(joinP l).length<=140737488355328):∀t ∈ l,t.text.size<=140737488355328:=λt ht=>by
  have h1:=join_le l t ht
  obtain⟨k,a,s⟩:=t
  obtain⟨x,rfl,hx⟩:=text_bs s
  rw[wrtP_bs]at h1
  have:=wrt_len k x
  show(bs x).size<=_
  rw[bs_size];omega
def tks(l:List Ft):List Tok:=l.map Ft.t
theorem push_str {s:SV} {vs:List Value} (h:RowAt w 9 1 s vs) (hl:vs.length<=100000000000) {r:Nat} (x:ByteArray) (hb:w.heap[r]?=some (.cells #[.string x] 9)) :
    ∃(s':SV) (w':World),(Builtin.append_ #[33,33] 33 #[.slice s.a s.len s.cap,.slice (some ⟨r,0,none⟩) 1 1]).run Tryz.prog w=.ok (.slice s'.a s'.len s'.cap) w'/\RowAt w' 9 1 s' (vs ++ [.string x])/\Fr (· ∈ blkOf s) w w'/\(∀k ∈ blkOf s',k ∈ blkOf s∨w.heap.size<=k):=by
  have hl1:=h.1
  obtain⟨s',w',h1,h2,h3,h4,_⟩:=row_push (P:=Tryz.prog) (t:=33) (ty:=33) (e:=9) (z:=.string ⟨#[]⟩) (b:=16) Tryz.underlying33 (by kernel_rfl) rfl h (cl0 hb) rfl (by omega)
  exact⟨s',w',h1,h2,h3,h4⟩
theorem joinedText_c {s:SV} {l:List Ft} (hs:RdSl w0 s l) (hl:l.length<=100000000) (hd:∀t ∈ tks l,dateOk t) (hz:(joinP (tks l)).length<=140737488355328):Calls Tryz.prog 50 #[.slice s.a s.len s.cap] w0 λe w'=>e=.returned (.string (bs (joinP (tks l))))/\Pu w0 w':=by
  have hsl:=hs.len
  have hlim:=hs.lim
  have htx:=tokP_text hz
  refine calls_by (F50_calls _ w0) λR hR=>loopUp l.length (λk t w'=>∃s':SV,t=(s',(k:Int))/\RowAt w' 9 1 s' ((((tks l).take k).map λt=>Value.string (bs (wrtP t))))/\NewR w0 s'/\Pu w0 w') ⟨_,rfl,RowAt.nil _ _ _,by simp[NewR,blkOf],Pu.refl _⟩ ?_
  rintro k J t w2 hk ⟨s',rfl,hr,hn,hp⟩ hJ
  dsimp only
  have hr1:=hr.1
  rw[List.length_map,List.length_take]at hr1
  have htl:(tks l).length=l.length:=List.length_map _
  refine Br.of (λq=>?_) (λq=>?_)
  · have q:=dtrue q
    have hk2:k<l.length:=by omega
    obtain⟨t,ht⟩:=at_k hk2
    have htt:(tks l)[k]?=some t.t:=by unfold tks;rw[List.getElem?_map,ht];rfl
    have htm:=List.mem_of_getElem? htt
    obtain⟨a,f,ha,h1,h2,hf,_,_,c0,c1,c2,c3⟩:=RdSl.ft (hs.pu hp) ht
    refine⟨a,ha,h1,h2,_,c0,_,c1,_,c2,_,c3,?_⟩
    refine boxA (zs:=#[.int .i64 0,.int .i64 0,.string (⟨#[]⟩:ByteArray),.slice none 0 0]) rfl (by kernel_rfl) rfl λw3 hp3 hz3 hb3=>?_
    refine⟨_,cl hb3 0,_,cl hb3 1,_,cl hb3 2,_,cl hb3 3,(written_c t.t f (htx _ htm) (hd _ htm) w3).mono ?_⟩
    rintro e w4 ⟨rfl,hp4⟩
    refine⟨_,rfl,alB λw5 hp5 hb5=>?_⟩
    have hP:Pu w0 w5:=hp.trans (hp3.trans (hp4.trans hp5))
    obtain⟨s2,w6,hrun,hr6,hf6,hn6⟩:=push_str (hr.pu (hp3.trans (hp4.trans hp5))) (by rw[List.length_map,List.length_take];omega) _ hb5
    refine⟨s2,w6,hrun,?_⟩
    rw[wrap_in (by omega) (by omega)]
    refine hJ _ _ hk2 ⟨s2,by rw[show(k:Int)+1=((k+1:Nat):Int)by omega],?_,λi hi=>?_,hP.andNew hf6 λi hi=>hn i hi⟩
    · rw[take_at htt,List.map_append];exact hr6
    · rcases hn6 i hi with h|h
      · exact hn i h
      · have:=hP.size;omega
  · have q:=dfalse q
    have:k=l.length:=by omega
    subst this
    rw[←htl,List.take_length]at hr
    unfold F50_1
    have hj:Lib.join (((tks l).map λt=>bs (wrtP t)).map (·.data.toList)) [32]=joinP (tks l):=by
      rw[←join_eq,List.map_map]
      congr 1
    have hr9:=hr.1
    rw[List.length_map]at hr9
    have hj89:Calls Tryz.prog 89 #[.slice s'.a s'.len s'.cap,.string (⟨#[32]⟩:ByteArray)] w2 λe w'=>e=.returned (.string (bs (joinP (tks l))))/\Pu w2 w':=by
      by_cases h0:tks l=[]
      · rw[h0]at hr9 ⊢
        rw[List.length_nil]at hr9
        rw[show s'.len=0 by omega]
        refine(Any.strings_Join_none Tryz.lays156 Tryz.Builder_Extra_156 s'.a s'.cap ⟨#[32]⟩ w2).mono ?_
        rintro e w3 ⟨rfl,rfl⟩
        exact⟨rfl,Pu.refl _⟩
      · obtain⟨g,hg,hc,hgb⟩:=hr.base (by simpa using h0)
        have hlt:=hr.lt g hgb
        have hcp:=hr.le_cap
        have he:s'.len=((tks l).map λt=>bs (wrtP t)).length:=by rw[List.length_map];omega
        rw[hg,he]
        refine(Any.strings_Join Tryz.lays156 Tryz.Builder_Extra_156 g 0 s'.cap ((tks l).map λt=>bs (wrtP t)) ⟨#[32]⟩ w2 (λj x hx=>?_) hlt (by omega) (by omega) ?_).mono ?_
        · rw[Nat.zero_add]
          apply hc
          rw[List.getElem?_map]at hx ⊢
          obtain⟨u,hu,rfl⟩:=Option.map_eq_some_iff.1 hx
          rw[hu];rfl
        · show(Lib.join _ [32]).length<=_
          rw[hj];exact hz
        · rintro e w3 ⟨rfl,hb⟩
          refine⟨?_,hb⟩
          show Ending.returned (.string ⟨(Lib.join _ [32]).toArray⟩)=_
          rw[hj]
    refine hj89.mono ?_
    rintro e w3 ⟨rfl,hp3⟩
    exact⟨_,rfl,hR _ _ ⟨rfl,hp.trans hp3⟩⟩
end Go.Proofs.YtjbfehippchniaaGreatDoor
