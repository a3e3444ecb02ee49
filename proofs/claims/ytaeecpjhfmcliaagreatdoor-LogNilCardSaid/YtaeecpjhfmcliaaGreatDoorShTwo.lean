import Derived.Test.YtaeecpjhfmcliaaGreatDoorShOne
/- The soundness of one operation: what 'opE' says, the model's 'execOp' does. For every program. -/
namespace Go.Sh
variable {P : Program}
theorem zQg{t:TypeId}{d:TypeDesc}(h:P.underlying t=some d)(w:World):(underlying t).run P w=.ok d w:=by
 simp[underlying,h]
theorem yZk{t:TypeId}{i:TypeInfo}(h:P.info? t=some i)(w:World):(typeInfo t).run P w=.ok i w:=by
 simp[typeInfo,h]
theorem zQ6 {t:TypeId} (h:(P.info? t).isSome=true) (w:World):(sizeOf t).run P w=.ok (zXn P t) w:=by
 obtain⟨i,hi⟩:=Option.isSome_iff_exists.1 h
 simp[sizeOf,typeInfo,hi,zXn]
theorem zZd {t:TypeId} (h:(P.underlying t).isSome=true) (w:World):(isAgg t).run P w=.ok (yZP P t) w:=by
 obtain⟨d,hd⟩:=Option.isSome_iff_exists.1 h
 cases d <;> simp[isAgg,underlying,hd,yZP]
theorem zQN{t:TypeId}(h:zJd P t=true):(P.underlying t).isSome=true/\(P.info? t).isSome=true:=by
 simpa[zJd] using h
theorem yYx{ts:List Ty}:∀{a:Addr} {i:Nat} {w:World} {K:List Value->Prop},ldL ts a i w K->∃vs,vs.length=ts.length/\(∀j v,vs[j]?=some v->w.cell? (a.add (i+j))=some v)/\K vs:=by
 induction ts with
 | nil=>intro a i w K h;exact⟨[],rfl,by simp,h⟩
 | cons t ts ih=>
  intro a i w K h
  obtain⟨v,hv,h2⟩:=Ty.ex_elim h
  obtain⟨vs,h3,h4,h5⟩:=ih h2
  refine⟨v :: vs,by simp[h3],?_,h5⟩
  intro j x hx
  cases j with
  | zero=>simp at hx;subst hx;exact hv
  | succ j=>have:=h4 j x (by simpa using hx);rwa [show i+(j+1)=i+1+j by omega]
theorem zJY{t:TypeId}{a:Addr}{w:World}{K:Value->Prop}(h:yWl P t a w K):∃v,(loadVar t a).run P w=.ok v w/\K v:=by
 unfold yWl at h
 split at h
 case h_2=>exact h.elim
 rename_i hk
 simp only[Bool.and_eq_true]at hk
 obtain⟨hk,hf⟩:=hk
 obtain⟨hu,hi⟩:=zQN hk
 generalize yK9 P t=sh at h hf
 cases sh with
 | one ty=>
  obtain⟨v,hv,hK⟩:=Ty.ex_elim h
  refine⟨v,?_,hK⟩
  simp[zKW]at hf
  simp[loadVar,zZd hu,hf,hv]
 | agg ts=>
  obtain⟨vs,hl,hc,hK⟩:=yYx h
  refine⟨_,?_,hK⟩
  simp only[zKW,Bool.and_eq_true]at hf
  have hs:vs.length=zXn P t:=by rw[hl];exact Nat.eq_of_beq_eq_true hf.2
  have:=run_loadCells_list (P:=P) w a vs (λj v hv=>by have:=hc j v hv;rwa [Nat.zero_add]at this)
  rw[hs]at this
  simp[loadVar,zZd hu,hf.1,zQ6 hi,this]
 | row n=>
  obtain⟨cs,hn,hc,hK⟩:=h
  refine⟨_,?_,hK⟩
  simp only[zKW,Bool.and_eq_true]at hf
  have hs:cs.toList.length=zXn P t:=by simp[hn];exact Nat.eq_of_beq_eq_true hf.2
  have:=run_loadCells_list (P:=P) w a cs.toList (λj v hv=>by
   have hj:j<n:=by rw[←hn];simpa using (List.getElem?_eq_some_iff.1 hv).1
   rw[hc j hj];simpa using hv)
  rw[hs]at this
  simp[loadVar,zZd hu,hf.1,zQ6 hi,this]
theorem xZS(v:Value):zYz v=v.oneCell':=by cases v <;> rfl
theorem yQQ{a:Addr}{v:Value}{w:World}{K:World->Prop}(hv:zYz v=true)(h:st1 a v w K):(store a v).run P w=.ok () (w.setCell a v)/\K (w.setCell a v):=by
 obtain⟨hc,hf,hK⟩:=h
 obtain⟨o,ho⟩:=Option.isSome_iff_exists.1 hc
 refine⟨?_,hK⟩
 rw[run_store P w a v .plain (by rw[←xZS];exact hv),ho]
 simp[hf]
theorem yQ9:∀{vs:List Value} {a:Addr} {i:Nat} {w:World} {K:World->Prop},vs.all zYz=true->stL vs a i w K->∃w',(storeCells a vs i).run P w=.ok () w'/\K w'
 | [],_,_,w,_,_,h=>⟨w,rfl,h⟩
 | v :: vs,a,i,w,K,hv,h=>by
  simp only[List.all_cons,Bool.and_eq_true]at hv
  obtain⟨h1,h2⟩:=yQQ (P:=P) hv.1 h
  obtain⟨w',h3,h4⟩:=yQ9 hv.2 h2
  exact⟨w',by simp only[storeCells,Sem.run_bind,h1,Result.andThen_ok,h3],h4⟩
theorem yQl{t:TypeId}{a:Addr}{v:Value}{w:World}{K:World->Prop}(h:yW5 P t a v w K):∃w',(storeVar t a v).run P w=.ok () w'/\K w':=by
 unfold yW5 at h
 split at h
 case h_2=>exact h.elim
 rename_i hk
 obtain⟨hu,hi⟩:=zQN hk
 split at h
 ·rename_i cs
  obtain⟨hs,h1,h2⟩:=h
  obtain⟨w',h3,h4⟩:=yQ9 (P:=P) h1 h2
  exact⟨w',by simp[storeVar,Value.cells,zQ6 hi,hs,h3],h4⟩
 ·exact h.elim
 ·rename_i n1 n2
  split at h
  case h_2=>exact h.elim
  rename_i h5
  simp only[Bool.and_eq_true]at h5
  obtain⟨h5,h6⟩:=h5
  have hz:=Nat.eq_of_beq_eq_true h5
  have hcells:v.cells=#[v]:=by cases v <;> first|rfl|(simp[zYz]at h6)
  obtain⟨h1,h2⟩:=yQQ (P:=P) h6 h
  have e0:a.add 0=a:=by simp[Addr.add]
  exact⟨_,by simp only[storeVar,hcells,Sem.run_bind,zQ6 hi,hz,Result.andThen_ok];simp[storeCells,e0,h1],h2⟩
theorem zYU{k:IntKind}{v:Value}{K:Int->Prop}(h:yK6 k v K):∃n,v=.int k n/\K n:=by
 unfold yK6 at h
 split at h
 ·split at h
  ·rename_i hk;exact⟨_,by rw[of_decide_eq_true hk],h⟩
  ·exact h.elim
 ·exact h.elim
theorem yZ4{v:Value}{K:Bool->Prop}(h:dBl v K):∃n,v=.bool n/\K n:=by
 unfold dBl at h;split at h;exact⟨_,rfl,h⟩;exact h.elim
theorem yQy{v:Value}{K:ByteArray->Prop}(h:dStr v K):∃n,v=.string n/\K n:=by
 unfold dStr at h;split at h;exact⟨_,rfl,h⟩;exact h.elim
theorem zYW{v:Value}{K:Option Addr->Prop}(h:dPtr v K):∃n,v=.pointer n/\K n:=by
 unfold dPtr at h;split at h;exact⟨_,rfl,h⟩;exact h.elim
theorem yXY{v:Value}{K:SV->Prop}(h:dSl v K):∃s:SV,v=.slice s.a s.len s.cap/\K s:=by
 unfold dSl at h;split at h;exact⟨⟨_,_,_⟩,rfl,h⟩;exact h.elim
theorem yQW{v:Value}{K:Option Nat->Prop}(h:dMap v K):∃n,v=.map n/\K n:=by
 unfold dMap at h;split at h;exact⟨_,rfl,h⟩;exact h.elim
theorem zJe{v:Value}{K:Array Value->Prop}(h:yVL v K):∃n,v=.agg n/\K n:=by
 unfold yVL at h;split at h;exact⟨_,rfl,h⟩;exact h.elim
theorem zJj{v:Value}{K:List Value->Prop}(h:yK8 v K):∃l:List Value,v=.agg l.toArray/\K l:=by
 unfold yK8 at h;split at h;exact⟨_,rfl,h⟩;exact h.elim
theorem zJ3{l:List Value}{K:Value->List Value->Prop}(h:dHd l K):∃v r,l=v :: r/\K v r:=by
 unfold dHd at h;split at h;exact⟨_,_,rfl,h⟩;exact h.elim
theorem zZ6{l:List Value}{K:Prop}(h:yVc l K):l=[]/\K:=by
 unfold yVc at h;split at h;exact⟨rfl,h⟩;exact h.elim
theorem Ty.dec_elim{t:Ty}{v:Value}{K:Value->Prop}(h:t.dec v K):K v:=by
 cases t with
 | int k=>obtain⟨n,e,h9⟩:=zYU h;subst e;exact h9
 | bool=>obtain⟨n,e,h9⟩:=yZ4 h;subst e;exact h9
 | str=>obtain⟨n,e,h9⟩:=yQy h;subst e;exact h9
 | ptr=>obtain⟨n,e,h9⟩:=zYW h;subst e;exact h9
 | slice=>have h:dSl v λs=>K (.slice s.a s.len s.cap):=h;obtain⟨n,e,h9⟩:=yXY h;subst e;exact h9
 | map=>obtain⟨n,e,h9⟩:=yQW h;subst e;exact h9
 | any=>exact h
theorem yQ5:∀{ts:List Ty} {l:List Value} {K:List Value->Prop},decL ts l K->K l
 | [],l,K,h=>by obtain⟨e,h9⟩:=zZ6 h;subst e;exact h9
 | t :: ts,l,K,h=>by
  obtain⟨v,r,e,h9⟩:=zJ3 h
  subst e
  have o8:decL ts r λvs=>K (v :: vs):=Ty.dec_elim (K:=λv=>decL ts r λvs=>K (v :: vs)) h9
  exact yQ5 (ts:=ts) (K:=λvs=>K (v :: vs)) o8
theorem Shp.dec_elim{s:Shp}{v:Value}{K:Value->Prop}(h:s.dec v K):K v:=by
 cases s with
 | one t=>exact Ty.dec_elim h
 | agg ts=>have h:yK8 v λl=>decL ts l λvs=>K (.agg vs.toArray):=h;obtain⟨l,e,h9⟩:=zJj h;subst e;exact yQ5 (K:=λvs=>K (.agg vs.toArray)) h9
 | row n=>have h:yVL v λcs=>K (.agg cs):=h;obtain⟨l,e,h9⟩:=zJe h;subst e;exact h9
theorem zQx{o:Oper}{a:Act}{w w':World}{v:Value}{next:Act->World->Prop}{Q:Exit->Act->World->Prop}{s:Sem Value}(hr:s.run P w=.ok v w')
  (h:next (a.put o.dst v) w'):o.upon P a next Q ((do pure (.value (←s)):Sem Next).run P w):=by
 simp only[Sem.run_bind,hr,Result.andThen_ok,Sem.run_pure,Oper.upon];exact h
theorem zKi {o:Oper} {a:Act} {w w':World} {next:Act->World->Prop} {Q:Exit->Act->World->Prop} {s:Sem Unit} (hr:s.run P w=.ok () w')
  (h:next (a.put o.dst undef) w'):o.upon P a next Q ((do s;pure .skip:Sem Next).run P w):=by
 simp only[Sem.run_bind,hr,Result.andThen_ok,Sem.run_pure,Oper.upon];exact h
theorem zXj{s:Sem Value}{w:World}{K:Value->World->Prop}(h:yKw P s w K):∃v w',s.run P w=.ok v w'/\K v w':=by
 unfold yKw at h
 split at h
 ·exact⟨_,_,by assumption,h⟩
 ·exact h.elim
theorem zZD{sh:Shp}{s:Sem Value}{w:World}{K:Value->World->Prop}(h:yZH P sh s w K):∃v w',s.run P w=.ok v w'/\K v w':=
 let ⟨v,w',h1,h2⟩:=Shp.ex_elim h;⟨v,w',h1,h2⟩
theorem zXa{t:TypeId}{s:Sem Value}{w:World}{K:Value->World->Prop}(h:yZx P t s w K):∃v w',s.run P w=.ok v w'/\K v w':=
 let ⟨v,w',h1,h2⟩:=zZc h;⟨v,w',h1,h2⟩
theorem zQP{v:Value}{K:Addr->Prop}(h:zK9 v K):∃a,v=.pointer (some a)/\K a:=by
 unfold zK9 zQf at h
 split at h
 ·split at h
  ·exact⟨_,rfl,h⟩
  ·exact h.elim
 ·exact h.elim
theorem zJp{v:Value}{K:IntKind->Int->Prop}(h:xJq v K):∃k n,v=.int k n/\K k n:=by
 unfold xJq at h
 split at h
 ·exact⟨_,_,rfl,h⟩
 ·exact h.elim
theorem yXZ{v:Value}{K:FuncId->Array Value->Array Value->Prop}(h:fnE v K):∃f x y,v=.func (.func f) x y/\K f x y:=by
 unfold fnE at h
 split at h
 ·exact⟨_,_,_,rfl,h⟩
 ·exact h.elim
theorem yJi{op:BinOp}{t:TypeId}{x y:Operand}{vx vy:Value}{w:World}{K:Value->World->Prop}(h:binE P op t x y vx vy w K) :
  ∃v w',(do eqGuard op t x y vx vy;binOp op t vx vy:Sem Value).run P w=.ok v w'/\K v w':=by
 unfold binE at h
 split at h
 ·rename_i k a k' b
  obtain⟨rfl,hb,hK⟩:=h
  exact⟨_,_,by simp[eqGuard,binOp,Op.intDiv,hb],hK⟩
 ·rename_i k a k' b
  obtain⟨rfl,hb,hK⟩:=h
  exact⟨_,_,by simp[eqGuard,binOp,Op.intDiv,hb],hK⟩
 ·rename_i k a k' b
  obtain⟨hb,hK⟩:=h
  exact⟨_,_,by simp[eqGuard,binOp,Op.shift,Int.not_lt.2 hb],hK⟩
 ·rename_i k a k' b
  obtain⟨hb,hK⟩:=h
  exact⟨_,_,by simp[eqGuard,binOp,Op.shift,Int.not_lt.2 hb],hK⟩
 ·rename_i a b
  obtain⟨hs,hK⟩:=h
  refine⟨_,_,?_,hK⟩
  have:¬(((a.size+b.size:Nat):Int) > IntKind.i64.max):=by
   have e:IntKind.i64.max=9223372036854775807:=by decide
   rw[e];omega
  simp only[eqGuard,binOp,Op.stringOp]
  rw[if_neg this]
  simp
 all_goals first|exact zZD h|exact zXj h
theorem zXe{v:Option Value}{d:Nat}{K:Nat->Prop}(h:xZw v d K):∃n,K n/\(v=none/\n=d∨∃k i,v=some (.int k i)/\0<=i/\n=i.toNat):=by
 unfold xZw at h
 split at h
 ·exact⟨d,h,.inl ⟨rfl,rfl⟩⟩
 ·obtain⟨k,i,rfl,h0,hK⟩:=zJp h
  exact⟨_,hK,.inr ⟨k,i,rfl,h0,rfl⟩⟩
theorem zKe{k:IntKind}{i:Int}{y:Nat}{c:BoundsCode}(w:World)(h0:0<=i)(h:i.toNat<=y):(Instr.sliceBound (.int k i) y c).run P w=.ok i.toNat w:=by
 have h2:0<=i/\i<=(y:Int):=⟨h0,by omega⟩
 simp only[Instr.sliceBound,asIntOf,Sem.run_bind,Sem.run_pure,Result.andThen_ok]
 rw[if_pos h2];rfl
theorem zQX {isS:Bool} {len cap l h:Nat} {lo hi:Option Value} (w:World) (hh:hi=none/\h=len∨∃k i,hi=some (.int k i)/\0<=i/\h=i.toNat)
  (hl:lo=none/\l=0∨∃k i,lo=some (.int k i)/\0<=i/\l=i.toNat) (h1:h<=cap) (h2:l<=h):(Instr.sliceBounds isS len cap lo hi none).run P w=.ok (l,h,cap) w:=by
 unfold Instr.sliceBounds
 rcases hh with⟨rfl,rfl⟩|⟨k,i,rfl,xx,rfl⟩ <;> rcases hl with⟨rfl,rfl⟩|⟨k2,i2,rfl,tv,rfl⟩
 ·simp
 ·simp[zKe w tv h2]
 ·simp[zKe w xx h1]
 ·simp[zKe w xx h1,zKe w tv h2]
theorem zWe{t:TypeId}{v:Value}{lo hi:Option Value}{w:World}{K:Value->Prop}(h:zKZ P t v lo hi K):∃r,(Instr.sliceAt t v lo hi none).run P w=.ok r w/\K r:=by
 unfold zKZ at h
 split at h
 ·rename_i hu
  split at h
  case h_2=>exact h.elim
  obtain⟨hh,⟨h1,h⟩,eh⟩:=zXe h
  obtain⟨l,⟨h2,hK⟩,el⟩:=zXe h
  refine⟨_,?_,hK⟩
  have:=zQX (P:=P) (isS:=false) w eh el h1 h2
  simp[Instr.sliceAt,zQg hu,Instr.slice,this]
 ·rename_i e hu
  split at h
  case h_2=>exact h.elim
  split at h
  case h_2=>exact h.elim
  rename_i hk
  obtain⟨hh,⟨h1,h⟩,eh⟩:=zXe h
  obtain⟨l,⟨h2,hK⟩,el⟩:=zXe h
  refine⟨_,?_,hK⟩
  have:=zQX (P:=P) (isS:=true) w eh el h1 h2
  simp[Instr.sliceAt,zQg hu,Instr.slice,this,zQ6 (zQN hk).2]
 ·rename_i n e hu
  split at h
  case h_2=>exact h.elim
  rename_i hk
  obtain⟨a,ea,h9⟩:=zQP h
  subst ea
  obtain⟨hh,⟨h1,h⟩,eh⟩:=zXe h9
  obtain⟨l,⟨h2,hK⟩,el⟩:=zXe h
  refine⟨_,?_,hK⟩
  have:=zQX (P:=P) (isS:=false) w eh el h1 h2
  simp[Instr.sliceAt,zQg hu,Instr.sureAddr,this,zQ6 (zQN hk).2]
 ·exact h.elim
theorem zKj{t:TypeId}{v i:Value}{w:World}{K:Addr->Prop}(h:zJX P t v i K):∃a,(Instr.indexAt t v i).run P w=.ok (.pointer (some a)) w/\K a:=by
 unfold zJX at h
 obtain⟨k,n,rfl,h⟩:=zJp h
 split at h
 ·rename_i e hu
  split at h
  case h_2=>exact h.elim
  rename_i b len cap hk _
  obtain⟨a,rfl,h0,h1,hK⟩:=h
  refine⟨_,?_,hK⟩
  have hc:0<=n/\n<(len:Int):=⟨h0,h1⟩
  simp[Instr.indexAt,asIntOf,zQg hu,hc,zQ6 (zQN hk).2]
 ·rename_i len e hu
  split at h
  case h_2=>exact h.elim
  rename_i hk
  obtain⟨a,rfl,h0,h1,hK⟩:=zQP h
  refine⟨_,?_,hK⟩
  have hc:0<=n/\n<(len:Int):=⟨h0,h1⟩
  simp[Instr.indexAt,asIntOf,zQg hu,hc,zQ6 (zQN hk).2,Instr.sureAddr]
 ·exact h.elim
theorem yWE{t:TypeId}{v i:Value}{w:World}{K:Value->World->Prop}(h:ixE P t v i w K):∃r w',(Instr.index t v i).run P w=.ok r w'/\K r w':=by
 unfold ixE at h
 split at h
 ·rename_i s
  obtain⟨k,n,rfl,h⟩:=zJp h
  split at h
  ·rename_i hu
   obtain⟨b,h0,hb,hK⟩:=h
   exact⟨_,_,by simp[Instr.index,asIntOf,zQg hu,h0,hb],hK⟩
  ·exact h.elim
 ·split at h
  ·exact zZD h
  ·exact h.elim
theorem zVs{b:Builtin}{at_:Array TypeId}{t:TypeId}{cs:Array Bool}{args:Array Value}{w:World}{K:Value->World->Prop}(h:zYn P b at_ t cs args w K) :
  ∃s:Sem Value,∃v w',builtin b at_ t cs args=(do pure (.value (←s)))/\s.run P w=.ok v w'/\K v w':=by
 cases b <;> simp only[zYn]at h
 case append=>obtain⟨v,w',h1,h2⟩:=zXa h;exact⟨_,v,w',rfl,h1,h2⟩
 case copy=>obtain⟨v,w',h1,h2⟩:=zXa h;exact⟨_,v,w',rfl,h1,h2⟩
 case delete=>obtain⟨v,w',h1,h2⟩:=zXa h;exact⟨_,v,w',rfl,h1,h2⟩
 case clear=>obtain⟨v,w',h1,h2⟩:=zXa h;exact⟨_,v,w',rfl,h1,h2⟩
 case min=>obtain⟨v,w',h1,h2⟩:=zXa h;exact⟨_,v,w',rfl,h1,h2⟩
 case max=>obtain⟨v,w',h1,h2⟩:=zXa h;exact⟨_,v,w',rfl,h1,h2⟩
 case unsafeSliceData=>obtain⟨v,w',h1,h2⟩:=zXa h;exact⟨_,v,w',rfl,h1,h2⟩
 case unsafeString=>obtain⟨v,w',h1,h2⟩:=zXa h;exact⟨_,v,w',rfl,h1,h2⟩
 case cap=>obtain⟨v,w',h1,h2⟩:=zXj h;exact⟨_,v,w',rfl,h1,h2⟩
 case len=>
  split at h
  ·rename_i m hm
   have e:args=#[.map m]:=by apply Array.ext';simpa using hm
   subst e
   obtain⟨v,w',h1,h2⟩:=zZD h;exact⟨_,v,w',rfl,h1,h2⟩
  ·obtain⟨v,w',h1,h2⟩:=zXj h;exact⟨_,v,w',rfl,h1,h2⟩
theorem zJf{f:FuncId}(h:zQt P f=true)(args:Array Value)(w:World):(callFunc f args).run P w=.ok (.enter f args) w:=by
 unfold zQt at h
 split at h
 ·rename_i fn hf
  simp only[Bool.and_eq_true,Bool.not_eq_true',beq_eq_false_iff_ne]at h
  obtain⟨h1,h2⟩:=h
  obtain⟨c,h3⟩:=Option.isSome_iff_exists.1 h1
  simp[callFunc,hf,h2,h3]
 ·cases h
theorem yXM{f:FuncId}{args:Array Value}{t:TypeId}{w:World}{K:Value->World->Prop}(hb:zQt P f=true)(h:xZE P f args t w K){o:Oper}{a:Act}
  {next:Act->World->Prop} {Q:Exit->Act->World->Prop} (hk:∀v w',K v w'->next (a.put o.dst v) w'):o.upon P a next Q ((callFunc f args).run P w):=by
 rw[zJf hb]
 simp only[Oper.upon]
 refine Calls.mono h λe w' he=>?_
 obtain⟨v,rfl,hK⟩:=zZc he
 exact hk _ _ hK
theorem yXB{f:FuncId}{args:Array Value}{t:TypeId}{w:World}{K:Value->World->Prop}(h:xJj P f args t w K){o:Oper}{a:Act}
  {next:Act->World->Prop} {Q:Exit->Act->World->Prop} (hk:∀v w',K v w'->next (a.put o.dst v) w'):o.upon P a next Q ((callFunc f args).run P w):=by
 unfold xJj at h
 split at h
 ·rename_i hb
  rw[zJf hb]
  simp only[Oper.upon]
  refine Calls.mono h λe w' he=>?_
  obtain⟨v,rfl,hK⟩:=zZc he
  exact hk _ _ hK
 ·obtain⟨v,w',hr,hK⟩:=zZc h
  rw[hr]
  exact hk _ _ hK
end Go.Sh
