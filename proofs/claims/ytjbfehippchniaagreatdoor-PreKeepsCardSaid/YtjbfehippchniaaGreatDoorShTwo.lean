import Derived.Test.YtjbfehippchniaaGreatDoorShOne
/- The soundness of one operation: what 'opE' says, the model's 'execOp' does. For every program. -/
namespace Go.Sh
variable {P : Program}
theorem run_under{t:TypeId}{d:TypeDesc}(h:P.underlying t=some d)(w:World):(underlying t).run P w=.ok d w:=by
  simp[underlying,h]
theorem run_info{t:TypeId}{i:TypeInfo}(h:P.info? t=some i)(w:World):(typeInfo t).run P w=.ok i w:=by
  simp[typeInfo,h]
theorem run_sizeOf' {t:TypeId} (h:(P.info? t).isSome=true) (w:World):(sizeOf t).run P w=.ok (sizeB P t) w:=by
  obtain⟨i,hi⟩:=Option.isSome_iff_exists.1 h
  simp[sizeOf,typeInfo,hi,sizeB]
theorem run_isAgg' {t:TypeId} (h:(P.underlying t).isSome=true) (w:World):(isAgg t).run P w=.ok (aggB P t) w:=by
  obtain⟨d,hd⟩:=Option.isSome_iff_exists.1 h
  cases d <;> simp[isAgg,underlying,hd,aggB]
theorem knownB_spec{t:TypeId}(h:knownB P t=true):(P.underlying t).isSome=true ∧ (P.info? t).isSome=true:=by
  simpa[knownB] using h
theorem ldL_spec{ts:List Ty}:∀{a:Addr} {i:Nat} {w:World} {K:List Value → Prop},ldL ts a i w K → ∃vs,vs.length=ts.length ∧ (∀j v,vs[j]?=some v → w.cell? (a.add (i+j))=some v) ∧ K vs:=by
  induction ts with
  | nil=>intro a i w K h;exact⟨[],rfl,by simp,h⟩
  | cons t ts ih=>
    intro a i w K h
    obtain⟨v,hv,h2⟩:=Ty.ex_elim h
    obtain⟨vs,h3,h4,h5⟩:=ih h2
    refine⟨v :: vs,by simp[h3],?_,h5⟩
    intro j x hx
    cases j with
    | zero=>simp at hx;subst hx;exact hv
    | succ j=>have:=h4 j x (by simpa using hx);rwa [show i+(j+1)=i+1+j by omega]
theorem loadE_sound{t:TypeId}{a:Addr}{w:World}{K:Value → Prop}(h:loadE P t a w K):∃v,(loadVar t a).run P w=.ok v w ∧ K v:=by
  unfold loadE at h
  split at h
  case h_2=>exact h.elim
  rename_i hk
  simp only[Bool.and_eq_true]at hk
  obtain⟨hk,hf⟩:=hk
  obtain⟨hu,hi⟩:=knownB_spec hk
  generalize shOf P t=sh at h hf
  cases sh with
  | one ty=>
    obtain⟨v,hv,hK⟩:=Ty.ex_elim h
    refine⟨v,?_,hK⟩
    simp[shFits]at hf
    simp[loadVar,run_isAgg' hu,hf,hv]
  | agg ts=>
    obtain⟨vs,hl,hc,hK⟩:=ldL_spec h
    refine⟨_,?_,hK⟩
    simp only[shFits,Bool.and_eq_true]at hf
    have hs:vs.length=sizeB P t:=by rw[hl];exact Nat.eq_of_beq_eq_true hf.2
    have:=run_loadCells_list (P:=P) w a vs (λj v hv=>by have:=hc j v hv;rwa [Nat.zero_add]at this)
    rw[hs]at this
    simp[loadVar,run_isAgg' hu,hf.1,run_sizeOf' hi,this]
  | row n=>
    obtain⟨cs,hn,hc,hK⟩:=h
    refine⟨_,?_,hK⟩
    simp only[shFits,Bool.and_eq_true]at hf
    have hs:cs.toList.length=sizeB P t:=by simp[hn];exact Nat.eq_of_beq_eq_true hf.2
    have:=run_loadCells_list (P:=P) w a cs.toList (λj v hv=>by
      have hj:j<n:=by rw[←hn];simpa using (List.getElem?_eq_some_iff.1 hv).1
      rw[hc j hj];simpa using hv)
    rw[hs]at this
    simp[loadVar,run_isAgg' hu,hf.1,run_sizeOf' hi,this]
theorem oneC_eq(v:Value):oneC v=v.oneCell':=by cases v <;> rfl
theorem st1_sound{a:Addr}{v:Value}{w:World}{K:World → Prop}(hv:oneC v=true)(h:st1 a v w K):(store a v).run P w=.ok () (w.setCell a v) ∧ K (w.setCell a v):=by
  obtain⟨hc,hf,hK⟩:=h
  obtain⟨o,ho⟩:=Option.isSome_iff_exists.1 hc
  refine⟨?_,hK⟩
  rw[run_store P w a v .plain (by rw[←oneC_eq];exact hv),ho]
  simp[hf]
theorem stL_sound:∀{vs:List Value} {a:Addr} {i:Nat} {w:World} {K:World → Prop},vs.all oneC=true → stL vs a i w K → ∃w',(storeCells a vs i).run P w=.ok () w' ∧ K w'
  | [],_,_,w,_,_,h=>⟨w,rfl,h⟩
  | v :: vs,a,i,w,K,hv,h=>by
    simp only[List.all_cons,Bool.and_eq_true]at hv
    obtain⟨h1,h2⟩:=st1_sound (P:=P) hv.1 h
    obtain⟨w',h3,h4⟩:=stL_sound hv.2 h2
    exact⟨w',by simp only[storeCells,Sem.run_bind,h1,Result.andThen_ok,h3],h4⟩
theorem storeE_sound{t:TypeId}{a:Addr}{v:Value}{w:World}{K:World → Prop}(h:storeE P t a v w K):∃w',(storeVar t a v).run P w=.ok () w' ∧ K w':=by
  unfold storeE at h
  split at h
  case h_2=>exact h.elim
  rename_i hk
  obtain⟨hu,hi⟩:=knownB_spec hk
  split at h
  · rename_i cs
    obtain⟨hs,h1,h2⟩:=h
    obtain⟨w',h3,h4⟩:=stL_sound (P:=P) h1 h2
    exact⟨w',by simp[storeVar,Value.cells,run_sizeOf' hi,hs,h3],h4⟩
  · exact h.elim
  · rename_i n1 n2
    split at h
    case h_2=>exact h.elim
    rename_i h5
    simp only[Bool.and_eq_true]at h5
    obtain⟨h5,h6⟩:=h5
    have hz:=Nat.eq_of_beq_eq_true h5
    have hcells:v.cells=#[v]:=by cases v <;> first|rfl|(simp[oneC]at h6)
    obtain⟨h1,h2⟩:=st1_sound (P:=P) h6 h
    have e0:a.add 0=a:=by simp[Addr.add]
    exact⟨_,by simp only[storeVar,hcells,Sem.run_bind,run_sizeOf' hi,hz,Result.andThen_ok];simp[storeCells,e0,h1],h2⟩
theorem dInt_elim{k:IntKind}{v:Value}{K:Int → Prop}(h:dInt k v K):∃n,v=.int k n ∧ K n:=by
  unfold dInt at h
  split at h
  · split at h
    · rename_i hk;exact⟨_,by rw[of_decide_eq_true hk],h⟩
    · exact h.elim
  · exact h.elim
theorem dBl_elim{v:Value}{K:Bool → Prop}(h:dBl v K):∃n,v=.bool n ∧ K n:=by
  unfold dBl at h;split at h;exact⟨_,rfl,h⟩;exact h.elim
theorem dStr_elim{v:Value}{K:ByteArray → Prop}(h:dStr v K):∃n,v=.string n ∧ K n:=by
  unfold dStr at h;split at h;exact⟨_,rfl,h⟩;exact h.elim
theorem dPtr_elim{v:Value}{K:Option Addr → Prop}(h:dPtr v K):∃n,v=.pointer n ∧ K n:=by
  unfold dPtr at h;split at h;exact⟨_,rfl,h⟩;exact h.elim
theorem dSl_elim{v:Value}{K:SV → Prop}(h:dSl v K):∃s:SV,v=.slice s.a s.len s.cap ∧ K s:=by
  unfold dSl at h;split at h;exact⟨⟨_,_,_⟩,rfl,h⟩;exact h.elim
theorem dMap_elim{v:Value}{K:Option Nat → Prop}(h:dMap v K):∃n,v=.map n ∧ K n:=by
  unfold dMap at h;split at h;exact⟨_,rfl,h⟩;exact h.elim
theorem dRow_elim{v:Value}{K:Array Value → Prop}(h:dRow v K):∃n,v=.agg n ∧ K n:=by
  unfold dRow at h;split at h;exact⟨_,rfl,h⟩;exact h.elim
theorem dAgg_elim{v:Value}{K:List Value → Prop}(h:dAgg v K):∃l:List Value,v=.agg l.toArray ∧ K l:=by
  unfold dAgg at h;split at h;exact⟨_,rfl,h⟩;exact h.elim
theorem dHd_elim{l:List Value}{K:Value → List Value → Prop}(h:dHd l K):∃v r,l=v :: r ∧ K v r:=by
  unfold dHd at h;split at h;exact⟨_,_,rfl,h⟩;exact h.elim
theorem dNil_elim{l:List Value}{K:Prop}(h:dNil l K):l=[] ∧ K:=by
  unfold dNil at h;split at h;exact⟨rfl,h⟩;exact h.elim
theorem Ty.dec_elim{t:Ty}{v:Value}{K:Value → Prop}(h:t.dec v K):K v:=by
  cases t with
  | int k=>obtain⟨n,e,h9⟩:=dInt_elim h;subst e;exact h9
  | bool=>obtain⟨n,e,h9⟩:=dBl_elim h;subst e;exact h9
  | str=>obtain⟨n,e,h9⟩:=dStr_elim h;subst e;exact h9
  | ptr=>obtain⟨n,e,h9⟩:=dPtr_elim h;subst e;exact h9
  | slice=>have h:dSl v λs=>K (.slice s.a s.len s.cap):=h;obtain⟨n,e,h9⟩:=dSl_elim h;subst e;exact h9
  | map=>obtain⟨n,e,h9⟩:=dMap_elim h;subst e;exact h9
  | any=>exact h
theorem decL_elim:∀{ts:List Ty} {l:List Value} {K:List Value → Prop},decL ts l K → K l
  | [],l,K,h=>by obtain⟨e,h9⟩:=dNil_elim h;subst e;exact h9
  | t :: ts,l,K,h=>by
    obtain⟨v,r,e,h9⟩:=dHd_elim h
    subst e
    have h10:decL ts r λvs=>K (v :: vs):=Ty.dec_elim (K:=λv=>decL ts r λvs=>K (v :: vs)) h9
    exact decL_elim (ts:=ts) (K:=λvs=>K (v :: vs)) h10
theorem Shp.dec_elim{s:Shp}{v:Value}{K:Value → Prop}(h:s.dec v K):K v:=by
  cases s with
  | one t=>exact Ty.dec_elim h
  | agg ts=>have h:dAgg v λl=>decL ts l λvs=>K (.agg vs.toArray):=h;obtain⟨l,e,h9⟩:=dAgg_elim h;subst e;exact decL_elim (K:=λvs=>K (.agg vs.toArray)) h9
  | row n=>have h:dRow v λcs=>K (.agg cs):=h;obtain⟨l,e,h9⟩:=dRow_elim h;subst e;exact h9
/-- What is asked of an operation that yields a value by a run. -/
theorem upon_val{o:Oper}{a:Act}{w w':World}{v:Value}{next:Act → World → Prop}{Q:Exit → Act → World → Prop}{s:Sem Value}(hr:s.run P w=.ok v w')
    (h:next (a.put o.dst v) w'):o.upon P a next Q ((do pure (.value (←s)):Sem Next).run P w):=by
  simp only[Sem.run_bind,hr,Result.andThen_ok,Sem.run_pure,Oper.upon];exact h
theorem upon_unit {o:Oper} {a:Act} {w w':World} {next:Act → World → Prop} {Q:Exit → Act → World → Prop} {s:Sem Unit} (hr:s.run P w=.ok () w')
    (h:next (a.put o.dst undef) w'):o.upon P a next Q ((do s;pure .skip:Sem Next).run P w):=by
  simp only[Sem.run_bind,hr,Result.andThen_ok,Sem.run_pure,Oper.upon];exact h
theorem rawE_elim{s:Sem Value}{w:World}{K:Value → World → Prop}(h:rawE P s w K):∃v w',s.run P w=.ok v w' ∧ K v w':=by
  unfold rawE at h
  split at h
  · exact⟨_,_,by assumption,h⟩
  · exact h.elim
theorem runE_elim{sh:Shp}{s:Sem Value}{w:World}{K:Value → World → Prop}(h:runE P sh s w K):∃v w',s.run P w=.ok v w' ∧ K v w':=
  let ⟨v,w',h1,h2⟩:=Shp.ex_elim h;⟨v,w',h1,h2⟩
theorem runT_elim{t:TypeId}{s:Sem Value}{w:World}{K:Value → World → Prop}(h:runT P t s w K):∃v w',s.run P w=.ok v w' ∧ K v w':=
  let ⟨v,w',h1,h2⟩:=resEx_elim h;⟨v,w',h1,h2⟩
theorem addrE_elim{v:Value}{K:Addr → Prop}(h:addrE v K):∃a,v=.pointer (some a) ∧ K a:=by
  unfold addrE ptrE at h
  split at h
  · split at h
    · exact⟨_,rfl,h⟩
    · exact h.elim
  · exact h.elim
theorem intE_elim{v:Value}{K:IntKind → Int → Prop}(h:intE v K):∃k n,v=.int k n ∧ K k n:=by
  unfold intE at h
  split at h
  · exact⟨_,_,rfl,h⟩
  · exact h.elim
theorem fnE_elim{v:Value}{K:FuncId → Array Value → Array Value → Prop}(h:fnE v K):∃f x y,v=.func (.func f) x y ∧ K f x y:=by
  unfold fnE at h
  split at h
  · exact⟨_,_,_,rfl,h⟩
  · exact h.elim
theorem binE_sound{op:BinOp}{t:TypeId}{x y:Operand}{vx vy:Value}{w:World}{K:Value → World → Prop}(h:binE P op t x y vx vy w K) :
    ∃v w',(do eqGuard op t x y vx vy;binOp op t vx vy:Sem Value).run P w=.ok v w' ∧ K v w':=by
  unfold binE at h
  split at h
  · rename_i k a k' b
    obtain⟨rfl,hb,hK⟩:=h
    exact⟨_,_,by simp[eqGuard,binOp,Op.intDiv,hb],hK⟩
  · rename_i k a k' b
    obtain⟨rfl,hb,hK⟩:=h
    exact⟨_,_,by simp[eqGuard,binOp,Op.intDiv,hb],hK⟩
  · rename_i k a k' b
    obtain⟨hb,hK⟩:=h
    exact⟨_,_,by simp[eqGuard,binOp,Op.shift,Int.not_lt.2 hb],hK⟩
  · rename_i k a k' b
    obtain⟨hb,hK⟩:=h
    exact⟨_,_,by simp[eqGuard,binOp,Op.shift,Int.not_lt.2 hb],hK⟩
  · rename_i a b
    obtain⟨hs,hK⟩:=h
    refine⟨_,_,?_,hK⟩
    have:¬(((a.size+b.size:Nat):Int) > IntKind.i64.max):=by
      have e:IntKind.i64.max=9223372036854775807:=by decide
      rw[e];omega
    simp only[eqGuard,binOp,Op.stringOp]
    rw[if_neg this]
    simp
  all_goals first|exact runE_elim h|exact rawE_elim h
theorem optE_elim{v:Option Value}{d:Nat}{K:Nat → Prop}(h:optE v d K):∃n,K n ∧ (v=none ∧ n=d∨∃k i,v=some (.int k i) ∧ 0 ≤ i ∧ n=i.toNat):=by
  unfold optE at h
  split at h
  · exact⟨d,h,.inl ⟨rfl,rfl⟩⟩
  · obtain⟨k,i,rfl,h0,hK⟩:=intE_elim h
    exact⟨_,hK,.inr ⟨k,i,rfl,h0,rfl⟩⟩
theorem run_bound{k:IntKind}{i:Int}{y:Nat}{c:BoundsCode}(w:World)(h0:0 ≤ i)(h:i.toNat ≤ y):(Instr.sliceBound (.int k i) y c).run P w=.ok i.toNat w:=by
  have h2:0 ≤ i ∧ i ≤ (y:Int):=⟨h0,by omega⟩
  simp only[Instr.sliceBound,asIntOf,Sem.run_bind,Sem.run_pure,Result.andThen_ok]
  rw[if_pos h2];rfl
theorem run_sliceBounds {isS:Bool} {len cap l h:Nat} {lo hi:Option Value} (w:World) (hh:hi=none ∧ h=len∨∃k i,hi=some (.int k i) ∧ 0 ≤ i ∧ h=i.toNat)
    (hl:lo=none ∧ l=0∨∃k i,lo=some (.int k i) ∧ 0 ≤ i ∧ l=i.toNat) (h1:h ≤ cap) (h2:l ≤ h):(Instr.sliceBounds isS len cap lo hi none).run P w=.ok (l,h,cap) w:=by
  unfold Instr.sliceBounds
  rcases hh with⟨rfl,rfl⟩|⟨k,i,rfl,hi0,rfl⟩ <;> rcases hl with⟨rfl,rfl⟩|⟨k2,i2,rfl,hl0,rfl⟩
  · simp
  · simp[run_bound w hl0 h2]
  · simp[run_bound w hi0 h1]
  · simp[run_bound w hi0 h1,run_bound w hl0 h2]
theorem sliceE_sound{t:TypeId}{v:Value}{lo hi:Option Value}{w:World}{K:Value → Prop}(h:sliceE P t v lo hi K):∃r,(Instr.sliceAt t v lo hi none).run P w=.ok r w ∧ K r:=by
  unfold sliceE at h
  split at h
  · rename_i hu
    split at h
    case h_2=>exact h.elim
    obtain⟨hh,⟨h1,h⟩,eh⟩:=optE_elim h
    obtain⟨l,⟨h2,hK⟩,el⟩:=optE_elim h
    refine⟨_,?_,hK⟩
    have:=run_sliceBounds (P:=P) (isS:=false) w eh el h1 h2
    simp[Instr.sliceAt,run_under hu,Instr.slice,this]
  · rename_i e hu
    split at h
    case h_2=>exact h.elim
    split at h
    case h_2=>exact h.elim
    rename_i hk
    obtain⟨hh,⟨h1,h⟩,eh⟩:=optE_elim h
    obtain⟨l,⟨h2,hK⟩,el⟩:=optE_elim h
    refine⟨_,?_,hK⟩
    have:=run_sliceBounds (P:=P) (isS:=true) w eh el h1 h2
    simp[Instr.sliceAt,run_under hu,Instr.slice,this,run_sizeOf' (knownB_spec hk).2]
  · rename_i n e hu
    split at h
    case h_2=>exact h.elim
    rename_i hk
    obtain⟨a,ea,h9⟩:=addrE_elim h
    subst ea
    obtain⟨hh,⟨h1,h⟩,eh⟩:=optE_elim h9
    obtain⟨l,⟨h2,hK⟩,el⟩:=optE_elim h
    refine⟨_,?_,hK⟩
    have:=run_sliceBounds (P:=P) (isS:=false) w eh el h1 h2
    simp[Instr.sliceAt,run_under hu,Instr.sureAddr,this,run_sizeOf' (knownB_spec hk).2]
  · exact h.elim
theorem ixAddrE_sound{t:TypeId}{v i:Value}{w:World}{K:Addr → Prop}(h:ixAddrE P t v i K):∃a,(Instr.indexAt t v i).run P w=.ok (.pointer (some a)) w ∧ K a:=by
  unfold ixAddrE at h
  obtain⟨k,n,rfl,h⟩:=intE_elim h
  split at h
  · rename_i e hu
    split at h
    case h_2=>exact h.elim
    rename_i b len cap hk _
    obtain⟨a,rfl,h0,h1,hK⟩:=h
    refine⟨_,?_,hK⟩
    have hc:0 ≤ n ∧ n<(len:Int):=⟨h0,h1⟩
    simp[Instr.indexAt,asIntOf,run_under hu,hc,run_sizeOf' (knownB_spec hk).2]
  · rename_i len e hu
    split at h
    case h_2=>exact h.elim
    rename_i hk
    obtain⟨a,rfl,h0,h1,hK⟩:=addrE_elim h
    refine⟨_,?_,hK⟩
    have hc:0 ≤ n ∧ n<(len:Int):=⟨h0,h1⟩
    simp[Instr.indexAt,asIntOf,run_under hu,hc,run_sizeOf' (knownB_spec hk).2,Instr.sureAddr]
  · exact h.elim
theorem ixE_sound{t:TypeId}{v i:Value}{w:World}{K:Value → World → Prop}(h:ixE P t v i w K):∃r w',(Instr.index t v i).run P w=.ok r w' ∧ K r w':=by
  unfold ixE at h
  split at h
  · rename_i s
    obtain⟨k,n,rfl,h⟩:=intE_elim h
    split at h
    · rename_i hu
      obtain⟨b,h0,hb,hK⟩:=h
      exact⟨_,_,by simp[Instr.index,asIntOf,run_under hu,h0,hb],hK⟩
    · exact h.elim
  · split at h
    · exact runE_elim h
    · exact h.elim
theorem builtinE_sound{b:Builtin}{at_:Array TypeId}{t:TypeId}{cs:Array Bool}{args:Array Value}{w:World}{K:Value → World → Prop}(h:builtinE P b at_ t cs args w K) :
    ∃s:Sem Value,∃v w',builtin b at_ t cs args=(do pure (.value (←s))) ∧ s.run P w=.ok v w' ∧ K v w':=by
  cases b <;> simp only[builtinE]at h
  case append=>obtain⟨v,w',h1,h2⟩:=runT_elim h;exact⟨_,v,w',rfl,h1,h2⟩
  case copy=>obtain⟨v,w',h1,h2⟩:=runT_elim h;exact⟨_,v,w',rfl,h1,h2⟩
  case delete=>obtain⟨v,w',h1,h2⟩:=runT_elim h;exact⟨_,v,w',rfl,h1,h2⟩
  case clear=>obtain⟨v,w',h1,h2⟩:=runT_elim h;exact⟨_,v,w',rfl,h1,h2⟩
  case min=>obtain⟨v,w',h1,h2⟩:=runT_elim h;exact⟨_,v,w',rfl,h1,h2⟩
  case max=>obtain⟨v,w',h1,h2⟩:=runT_elim h;exact⟨_,v,w',rfl,h1,h2⟩
  case unsafeSliceData=>obtain⟨v,w',h1,h2⟩:=runT_elim h;exact⟨_,v,w',rfl,h1,h2⟩
  case unsafeString=>obtain⟨v,w',h1,h2⟩:=runT_elim h;exact⟨_,v,w',rfl,h1,h2⟩
  case cap=>obtain⟨v,w',h1,h2⟩:=rawE_elim h;exact⟨_,v,w',rfl,h1,h2⟩
  case len=>
    split at h
    · rename_i m hm
      have e:args=#[.map m]:=by apply Array.ext';simpa using hm
      subst e
      obtain⟨v,w',h1,h2⟩:=runE_elim h;exact⟨_,v,w',rfl,h1,h2⟩
    · obtain⟨v,w',h1,h2⟩:=rawE_elim h;exact⟨_,v,w',rfl,h1,h2⟩
theorem run_callFunc{f:FuncId}(h:hasBody P f=true)(args:Array Value)(w:World):(callFunc f args).run P w=.ok (.enter f args) w:=by
  unfold hasBody at h
  split at h
  · rename_i fn hf
    simp only[Bool.and_eq_true,Bool.not_eq_true',beq_eq_false_iff_ne]at h
    obtain⟨h1,h2⟩:=h
    obtain⟨c,h3⟩:=Option.isSome_iff_exists.1 h1
    simp[callFunc,hf,h2,h3]
  · cases h
theorem callP_sound{f:FuncId}{args:Array Value}{t:TypeId}{w:World}{K:Value → World → Prop}(hb:hasBody P f=true)(h:callP P f args t w K){o:Oper}{a:Act}
    {next:Act → World → Prop} {Q:Exit → Act → World → Prop} (hk:∀v w',K v w' → next (a.put o.dst v) w'):o.upon P a next Q ((callFunc f args).run P w):=by
  rw[run_callFunc hb]
  simp only[Oper.upon]
  refine Calls.mono h λe w' he=>?_
  obtain⟨v,rfl,hK⟩:=resEx_elim he
  exact hk _ _ hK
theorem callF_sound{f:FuncId}{args:Array Value}{t:TypeId}{w:World}{K:Value → World → Prop}(h:callF P f args t w K){o:Oper}{a:Act}
    {next:Act → World → Prop} {Q:Exit → Act → World → Prop} (hk:∀v w',K v w' → next (a.put o.dst v) w'):o.upon P a next Q ((callFunc f args).run P w):=by
  unfold callF at h
  split at h
  · rename_i hb
    rw[run_callFunc hb]
    simp only[Oper.upon]
    refine Calls.mono h λe w' he=>?_
    obtain⟨v,rfl,hK⟩:=resEx_elim he
    exact hk _ _ hK
  · obtain⟨v,w',hr,hK⟩:=resEx_elim h
    rw[hr]
    exact hk _ _ hK
end Go.Sh
