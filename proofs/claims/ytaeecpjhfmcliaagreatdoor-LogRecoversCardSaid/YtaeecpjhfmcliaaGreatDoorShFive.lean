import Derived.Test.YtaeecpjhfmcliaaGreatDoorShFour
/- Operations that touch no memory ('pureOp'), and those that only read it ('lopE'), and their soundness in every world that is asked of. For every program. -/
namespace Go.Sh
variable {P : Program}
def zQq(P:Program){α:Type}(s:Sem α):Prop:=∀w1 w2 v w',s.run P w1=.ok v w'->w'=w1/\s.run P w2=.ok v w2
def zXd(P:Program){α:Type}(s:Sem α):Prop:=∀w v w',s.run P w ≠ .ok v w'
theorem zXd.still{α:Type}{s:Sem α}(h:zXd P s):zQq P s:=λw1 _ v w' e=>absurd e (h w1 v w')
theorem zQq.pure{α:Type}(a:α):zQq P (Pure.pure a:Sem α):=λw1 w2 v w' e=>by
 simp only[Sem.run_pure,Result.ok.injEq]at e ⊢;exact⟨e.2.symm,e.1,trivial⟩
theorem zQq.bind {α β:Type} {s:Sem α} {f:α->Sem β} (h:zQq P s) (hf:∀a,zQq P (f a)):zQq P (s >>= f):=λw1 w2 v w' e=>by
 rw[Sem.run_bind]at e ⊢
 cases hr:s.run P w1 with
 | halt x y=>rw[hr]at e;simp[Result.andThen]at e
 | ok a wa=>
  rw[hr]at e
  simp only[Result.andThen_ok]at e
  obtain⟨rfl,h2⟩:=h w1 w2 a wa hr
  rw[h2]
  simp only[Result.andThen_ok]
  exact hf a _ w2 v w' e
theorem zXd.halt{α:Type}(h:Halt):zXd P (.halt h:Sem α):=λ_ _ _ e=>by simp at e
theorem zXd.bind {α β:Type} {s:Sem α} {f:α->Sem β} (h:∀a,zXd P (f a)):zXd P (s >>= f):=λw v w' e=>by
 rw[Sem.run_bind]at e
 cases hr:s.run P w with
 | halt x y=>rw[hr]at e;simp[Result.andThen]at e
 | ok a wa=>rw[hr]at e;exact h a _ _ _ e
theorem zXd.stuck{α:Type}(m:String):zXd P (stuck m:Sem α):=zXd.halt _
theorem zXd.unsup{α:Type}(m:Unsupported):zXd P (unsupported m:Sem α):=zXd.halt _
theorem zXd.goPanic{α:Type}(m:Value):zXd P (goPanic m:Sem α):=zXd.halt _
theorem zXd.runtimePanic{α:Type}(e:RuntimeError):zXd P (runtimePanic e:Sem α):=by
 unfold Go.runtimePanic
 refine zXd.bind λp=>?_
 cases e <;> simp only <;> first
  | exact zXd.goPanic _
  | (refine zXd.bind λ_=>?_;first|exact zXd.goPanic _|(refine zXd.bind λ_=>?_;exact zXd.goPanic _))
theorem zQq.underlying(t:TypeId):zQq P (underlying t):=by
 unfold Go.underlying
 refine zQq.bind (λw1 w2 v w' e=>?_) λp=>?_
 ·simp only[run_program,Result.ok.injEq]at e ⊢;exact⟨e.2.symm,e.1,trivial⟩
 ·split
  ·exact zQq.pure _
  ·exact(zXd.stuck _).still
theorem zQq.typeInfo(t:TypeId):zQq P (typeInfo t):=by
 unfold Go.typeInfo
 refine zQq.bind (λw1 w2 v w' e=>?_) λp=>?_
 ·simp only[run_program,Result.ok.injEq]at e ⊢;exact⟨e.2.symm,e.1,trivial⟩
 ·split
  ·exact zQq.pure _
  ·exact(zXd.stuck _).still
theorem zQq.sizeOf(t:TypeId):zQq P (sizeOf t):=zQq.bind (zQq.typeInfo t) λ_=>zQq.pure _
theorem zQq.isAgg(t:TypeId):zQq P (isAgg t):=by
 unfold Go.isAgg
 refine zQq.bind (zQq.underlying t) λd=>?_
 split <;> exact zQq.pure _
theorem zQq.zeroValue(t:TypeId):zQq P (zeroValue t):=by
 unfold Go.zeroValue
 refine zQq.bind (zQq.typeInfo t) λd=>?_
 split
 ·exact zQq.pure _
 ·exact(zXd.unsup _).still
theorem zQq.part(t:TypeId)(cs:Array Value)(off:Nat):zQq P (part t cs off):=by
 unfold Go.part
 refine zQq.bind (zQq.isAgg t) λb=>?_
 split
 ·exact zQq.bind (zQq.sizeOf t) λ_=>zQq.pure _
 ·split
  ·exact zQq.pure _
  ·exact(zXd.stuck _).still
theorem zQq.field(t:TypeId)(cs:Array Value)(f:Nat):zQq P (Instr.field t (.agg cs) f):=by
 unfold Instr.field
 refine zQq.bind (zQq.underlying t) λd=>?_
 split
 ·split
  ·exact zQq.bind (zQq.pure _) λ_=>zQq.part _ _ _
  ·exact(zXd.stuck _).still
 ·exact(zXd.stuck _).still
theorem zQq.extract(v:Value)(i:Nat):zQq P (Instr.extract v i):=by
 unfold Instr.extract
 split
 ·split
  ·exact zQq.pure _
  ·exact(zXd.stuck _).still
 ·exact(zXd.stuck _).still
theorem zQq.mapM {α β:Type} (f:α->Sem β) (hf:∀a,zQq P (f a)):∀l:List α,zQq P (l.mapM f)
 | []=>by simpa using zQq.pure _
 | a :: l=>by
  rw[List.mapM_cons]
  exact zQq.bind (hf a) λ_=>zQq.bind (zQq.mapM f hf l) λ_=>zQq.pure _
theorem zQq.build (t:TypeId) (ps:Array (Nat × Value)):zQq P (Instr.build t ps):=by
 unfold Instr.build
 refine zQq.bind (zQq.zeroValue t) λz=>?_
 refine zQq.bind (zQq.underlying t) λd=>?_
 split
 ·refine zQq.bind ?_ λpl=>?_
  ·rw[Array.mapM_eq_mapM_toList]
   exact zQq.bind (zQq.mapM _ (λ_=>zQq.bind (zQq.sizeOf _) λ_=>zQq.pure _) _) λ_=>zQq.pure _
  ·split
   ·exact zQq.pure _
   ·exact(zXd.stuck _).still
 ·refine zQq.bind (zQq.sizeOf _) λs=>?_
  split
  ·exact zQq.pure _
  ·exact(zXd.stuck _).still
 ·exact(zXd.stuck _).still
theorem zQq.intBin(op:BinOp)(t:TypeId)(x y:Operand)(k k':IntKind)(a b:Int):zQq P (do eqGuard op t x y (.int k a) (.int k' b);binOp op t (.int k a) (.int k' b):Sem Value):=by
 refine zQq.bind ?_ λ_=>?_
 ·unfold eqGuard
  cases op <;> exact zQq.pure _
 ·have hsh:zQq P (Op.shift op k a k' b):=by
   unfold Op.shift
   split
   ·exact(zXd.runtimePanic _).still
   ·cases op <;> first|exact zQq.pure _|exact(zXd.stuck _).still
  have har:∀o,zQq P (Op.intArith o k a b):=λo=>by
   unfold Op.intArith;cases o <;> first|exact zQq.pure _|exact(zXd.stuck _).still
  have hdv:∀o,zQq P (Op.intDiv o k a b):=λo=>by
   unfold Op.intDiv
   split
   ·exact(zXd.runtimePanic _).still
   ·cases o <;> first|exact zQq.pure _|exact(zXd.stuck _).still
  have hbt:∀o,zQq P (Op.intBits o k a b):=λo=>by
   unfold Op.intBits;cases o <;> first|exact zQq.pure _|exact(zXd.stuck _).still
  have hcm:∀o,zQq P (Op.intCmp o a b):=λo=>by
   unfold Op.intCmp;cases o <;> first|exact zQq.pure _|exact(zXd.stuck _).still
  by_cases hk:k=k'
  ·subst hk
   cases op <;> simp only[binOp,ne_eq,not_true_eq_false,if_false] <;> first|exact har _|exact hdv _|exact hbt _|exact hcm _|exact hsh
  ·cases op <;> simp only[binOp,ne_eq,hk,not_false_eq_true,if_true] <;> first|exact(zXd.stuck _).still|exact hsh
theorem zQq.strBin(op:BinOp)(t:TypeId)(x y:Operand)(a b:ByteArray):zQq P (do eqGuard op t x y (.string a) (.string b);binOp op t (.string a) (.string b):Sem Value):=by
 refine zQq.bind ?_ λ_=>?_
 ·unfold eqGuard
  cases op <;> exact zQq.pure _
 ·have h:zQq P (Op.stringOp op a b):=by
   unfold Op.stringOp
   cases op <;> simp only <;> first|exact zQq.pure _|exact(zXd.stuck _).still|(split;exact(zXd.unsup _).still;exact zQq.pure _)
  cases op <;> exact h
theorem zQq.unary(op:UnOp)(v:Value)(hv:∀p,v ≠ .pointer p):zQq P (Op.unary op v):=by
 have har:∀(o:BinOp) (k:IntKind) (a b:Int),zQq P (Op.intArith o k a b):=λo k a b=>by
  unfold Op.intArith;cases o <;> first|exact zQq.pure _|exact(zXd.stuck _).still
 have hbt:∀(o:BinOp) (k:IntKind) (a b:Int),zQq P (Op.intBits o k a b):=λo k a b=>by
  unfold Op.intBits;cases o <;> first|exact zQq.pure _|exact(zXd.stuck _).still
 cases op <;> cases v <;> simp only[Op.unary] <;> first|exact har _ _ _ _|exact hbt _ _ _ _|exact zQq.pure _|exact(zXd.stuck _).still|exact absurd rfl (hv _)
theorem zQq.len(at_:Array TypeId)(t:TypeId)(v:Value)(hv:∀m,v ≠ .map m)(hc:∀m,v ≠ .chan m):zQq P (Builtin.len_ at_ t #[v]):=by
 unfold Builtin.len_
 split
 ·rename_i t' x hx
  refine zQq.bind (zQq.underlying _) λd=>?_
  split <;> first
   | exact zQq.pure _
   | exact(zXd.stuck _).still
   | skip
  ·refine zQq.bind (zQq.underlying _) λd=>?_
   split
   ·exact zQq.pure _
   ·exact(zXd.stuck _).still
  ·simp at hx;exact absurd hx.2 (hv _)
  ·simp at hx;exact absurd hx.2 (hc _)
 ·exact(zXd.stuck _).still
def yYk(P:Program)(s:Sem Value)(K:Value->Prop):Prop:=match s.run P (default:World)with
 | .ok v _=>K v
 | .halt _ _=>False
theorem zZB{s:Sem Value}{K:Value->Prop}(hs:zQq P s)(h:yYk P s K):∃v,K v/\∀w,s.run P w=.ok v w:=by
 unfold yYk at h
 split at h
 ·rename_i v w' hr
  refine⟨v,h,λw=>?_⟩
  have:=hs _ w _ _ hr
  exact this.2
 ·exact h.elim
def runP(P:Program)(sh:Shp)(s:Sem Value)(K:Value->Prop):Prop:=sh.ex λv=>(∀w,s.run P w=.ok v w)/\K v
def zVf(P:Program)(s:TypeId)(f:Nat)(a:Addr)(K:Addr->Prop):Prop:=
 match P.underlying s with
 | some (.struct fs)=>match fs[f]? with
  | some fd=>match P.info? fd.type with
   | some i=>match Nat.beq i.size 0 with
    | false=>K (a.add fd.offset)
    | true=>False
   | none=>False
  | none=>False
 | _=>False
theorem zVS{s:TypeId}{f:Nat}{a:Addr}{K:Addr->Prop}(h:zVf P s f a K):∃b,K b/\∀w,(Instr.fieldAt s (.pointer (some a)) f).run P w=.ok (.pointer (some b)) w:=by
 unfold zVf at h
 split at h
 case h_2=>exact h.elim
 rename_i fs hu
 split at h
 case h_2=>exact h.elim
 rename_i fd hfd
 split at h
 case h_2=>exact h.elim
 rename_i i hi
 split at h
 case h_2=>exact h.elim
 rename_i hz
 refine⟨_,h,λw=>?_⟩
 have hz':i.size ≠ 0:=by intro e;rw[e]at hz;cases hz
 simp[Instr.fieldAt,zQo hu,hfd,Instr.sureAddr,fieldPlace,sizeOf,yKz hi,hz']
theorem yWC{t:TypeId}{v:Value}{lo hi:Option Value}{K:Value->Prop}(h:zVH P t v lo hi K) :
  zVH P t v lo hi λr=>K r/\∀w,(Instr.sliceAt t v lo hi none).run P w=.ok r w:=by
 unfold zVH at h ⊢
 cases hu:P.underlying t with
 | none=>rw[hu]at h;exact h.elim
 | some d=>
  rw[hu]at h
  cases d <;> first|exact h.elim|skip
  ·cases v <;> first|exact h.elim|skip
   rename_i s
   simp only at h ⊢
   obtain⟨hh,⟨h1,h⟩,eh⟩:=zX6 h
   obtain⟨l,⟨h2,hK⟩,el⟩:=zX6 h
   have fin:K (.string (s.extract l hh))/\∀w,(Instr.sliceAt t (.string s) lo hi none).run P w=.ok (.string (s.extract l hh)) w:=⟨hK,λw=>by
    have:=zX1 (P:=P) (isS:=false) w eh el h1 h2
    simp[Instr.sliceAt,zQo hu,Instr.slice,this]⟩
   rcases eh with⟨rfl,rfl⟩|⟨k,i,rfl,h0,rfl⟩ <;> rcases el with⟨rfl,rfl⟩|⟨k2,i2,rfl,tK,rfl⟩
   ·exact⟨h1,h2,fin⟩
   ·exact⟨h1,tK,h2,fin⟩
   ·exact⟨h0,h1,h2,fin⟩
   ·exact⟨h0,h1,tK,h2,fin⟩
  ·rename_i e
   cases v <;> first|exact h.elim|skip
   rename_i a len cap
   simp only at h ⊢
   cases hk:zK8 P e with
   | false=>rw[hk]at h;exact h.elim
   | true=>
    rw[hk]at h
    simp only at h ⊢
    obtain⟨hh,⟨h1,h⟩,eh⟩:=zX6 h
    obtain⟨l,⟨h2,hK⟩,el⟩:=zX6 h
    have fin:K (.slice (if cap=l then a else a.map (·.add (l * zXA P e))) (hh - l) (cap - l))/\∀w,(Instr.sliceAt t (.slice a len cap) lo hi none).run P w=.ok (.slice (if cap=l then a else a.map (·.add (l * zXA P e))) (hh - l) (cap - l)) w:=⟨hK,λw=>by
     have:=zX1 (P:=P) (isS:=true) w eh el h1 h2
     simp[Instr.sliceAt,zQo hu,Instr.slice,this,zQK (zXg hk).2]⟩
    rcases eh with⟨rfl,rfl⟩|⟨k,i,rfl,h0,rfl⟩ <;> rcases el with⟨rfl,rfl⟩|⟨k2,i2,rfl,tK,rfl⟩
    ·exact⟨h1,h2,fin⟩
    ·exact⟨h1,tK,h2,fin⟩
    ·exact⟨h0,h1,h2,fin⟩
    ·exact⟨h0,h1,tK,h2,fin⟩
  ·rename_i n e
   simp only at h ⊢
   cases hk:zK8 P e with
   | false=>rw[hk]at h;exact h.elim
   | true=>
    rw[hk]at h
    simp only at h ⊢
    obtain⟨a,ea,h9⟩:=zXm h
    subst ea
    obtain⟨hh,⟨h1,h⟩,eh⟩:=zX6 h9
    obtain⟨l,⟨h2,hK⟩,el⟩:=zX6 h
    have fin:K (.slice (some (if n=l then a else a.add (l * zXA P e))) (hh - l) (n - l))/\∀w,(Instr.sliceAt t (.pointer (some a)) lo hi none).run P w=.ok (.slice (some (if n=l then a else a.add (l * zXA P e))) (hh - l) (n - l)) w:=⟨hK,λw=>by
     have:=zX1 (P:=P) (isS:=false) w eh el h1 h2
     simp[Instr.sliceAt,zQo hu,Instr.sureAddr,this,zQK (zXg hk).2]⟩
    rcases eh with⟨rfl,rfl⟩|⟨k,i,rfl,h0,rfl⟩ <;> rcases el with⟨rfl,rfl⟩|⟨k2,i2,rfl,tK,rfl⟩
    ·exact⟨h1,h2,fin⟩
    ·exact⟨h1,tK,h2,fin⟩
    ·exact⟨h0,h1,h2,fin⟩
    ·exact⟨h0,h1,tK,h2,fin⟩
theorem yJ3{t:TypeId}{v i:Value}{K:Addr->Prop}(h:zWs P t v i K) :
  zWs P t v i λa=>K a/\∀w,(Instr.indexAt t v i).run P w=.ok (.pointer (some a)) w:=by
 unfold zWs at h ⊢
 obtain⟨k,n,rfl,h⟩:=zKy h
 simp only[xYy]
 split at h
 ·rename_i e hu
  split at h
  case h_2=>exact h.elim
  rename_i b len cap hk _
  obtain⟨a,rfl,h0,h1,hK⟩:=h
  refine⟨a,rfl,h0,h1,hK,λw=>?_⟩
  have hc:0<=n/\n<(len:Int):=⟨h0,h1⟩
  simp[Instr.indexAt,asIntOf,zQo hu,hc,zQK (zXg hk).2]
 ·rename_i len e hu
  split at h
  case h_2=>exact h.elim
  rename_i hk
  obtain⟨a,rfl,h0,h1,hK⟩:=zXm h
  refine⟨h0,h1,hK,λw=>?_⟩
  have hc:0<=n/\n<(len:Int):=⟨h0,h1⟩
  simp[Instr.indexAt,asIntOf,zQo hu,hc,zQK (zXg hk).2,Instr.sureAddr]
 ·exact h.elim
def yYt(P:Program)(o:Oper)(ρ:Env)(K:Value->Prop):Prop:=
 match o.op with
 | .move x=>K (ev ρ x)
 | .assign x=>K (ev ρ x)
 | .pick c a b=>yZH (ev ρ c) λt=>Br t (K (ev ρ a)) (K (ev ρ b))
 | .build t parts=>yYk P (Instr.build t (parts.toList.map λ(i,x)=>(i,ev ρ x)).toArray) K
 | .nilCheck x=>zVg (ev ρ x) λa=>K (.pointer (some a))
 | .binOp op t x y _=>match ev ρ x,ev ρ y with
  | .int k a,.int k' b=>match op with
   | .quo=>k=k'/\b ≠ 0/\K (.int k (k.wrap (a.tdiv b)))
   | .rem=>k=k'/\b ≠ 0/\K (.int k (a.tmod b))
   | .shl=>0<=b/\K (.int k (k.wrap (a * 2 ^ (min b.toNat k.bits))))
   | .shr=>0<=b/\K (.int k (a.fdiv (2 ^ (min b.toNat k.bits))))
   | op=>yYk P (do eqGuard op t x y (.int k a) (.int k' b);binOp op t (.int k a) (.int k' b)) K
  | .string a,.string b=>match op with
   | .add=>((a.size+b.size:Nat):Int)<=9223372036854775807/\K (.string (a ++ b))
   | op=>yYk P (do eqGuard op t x y (.string a) (.string b);binOp op t (.string a) (.string b)) K
  | vx,vy=>runP P (.one .bool) (do eqGuard op t x y vx vy;binOp op t vx vy) K
 | .unOp op _ x=>match ev ρ x with
  | .bool b=>yYk P (Op.unary op (.bool b)) K
  | .int k n=>yYk P (Op.unary op (.int k n)) K
  | _=>False
 | .convert src dst x=>match ev ρ x,P.underlying src,P.underlying dst with
  | .int _ n,some (.int _),some (.int k')=>K (.int k' (k'.wrap n))
  | _,_,_=>False
 | .makeFunc fn first cap=>K (.func fn (first.toList.map (ev ρ)).toArray (cap.toList.map (ev ρ)).toArray)
 | .slice t x lo hi none=>zVH P t (ev ρ x) (match lo with|some y=>some (ev ρ y)|none=>none) (match hi with|some y=>some (ev ρ y)|none=>none) K
 | .fieldAddr s x f=>zVg (ev ρ x) λa=>zVf P s f a λb=>K (.pointer (some b))
 | .field t x f=>match ev ρ x with
  | .agg cs=>yYk P (Instr.field t (.agg cs) f) K
  | _=>False
 | .indexAddr t x i=>zWs P t (ev ρ x) (ev ρ i) λa=>K (.pointer (some a))
 | .index t x i=>match ev ρ x with
  | .string s=>xYy (ev ρ i) λ_ n=>match P.underlying t with
   | some .string=>∃b:UInt8,0<=n/\s[n.toNat]?=some b/\K (.int .u8 b.toNat)
   | _=>False
  | v=>match xX6 P t with
   | some e=>runP P (yYh P e) (Instr.index t v (ev ρ i)) K
   | none=>False
 | .extract t ix=>yYk P (Instr.extract (ev ρ t) ix) λv=>(yYh P o.type).dec v K
 | .call c=>match c.callee with
  | .builtin .len=>match c.args.toList.map (ev ρ)with
   | [.string s]=>yYk P (Builtin.len_ c.argTypes o.type #[.string s]) K
   | [.slice a n m]=>yYk P (Builtin.len_ c.argTypes o.type #[.slice a n m]) K
   | _=>False
  | _=>False
 | _=>False
theorem zXp {o:Oper} {ρ:Operand->Value} {s:Sem Value} {v:Value} (e:execOp ρ o=(do pure (.value (←s)))) (h:∀w,s.run P w=.ok v w):∀w,(execOp ρ o).run P w=.ok (.value v) w:=λw=>by
 rw[e];simp[h w]
theorem yZ0{o:Oper}{ρ:Env}{K:Value->Prop}(h:yYt P o ρ K):∃v,K v/\∀w,(execOp (ev ρ) o).run P w=.ok (.value v) w:=by
 unfold yYt at h
 split at h
 case h_1 x hop=>exact⟨_,h,λw=>by unfold execOp;rw[hop];rfl⟩
 case h_2 x hop=>exact⟨_,h,λw=>by unfold execOp;rw[hop];rfl⟩
 case h_3 c a b hop=>
  unfold yZH at h
  split at h
  ·rename_i t ht
   refine⟨if t then ev ρ a else ev ρ b,by cases t <;> exact h,λw=>?_⟩
   unfold execOp;rw[hop];simp[ht,asBool]
  ·exact h.elim
 case h_4 t parts hop=>
  rw[zJu]at h
  obtain⟨v,hK,hr⟩:=zZB (zQq.build _ _) h
  exact⟨v,hK,zXp (by unfold execOp;rw[hop]) hr⟩
 case h_5 x hop=>
  obtain⟨a,hx,hK⟩:=zXm h
  exact⟨_,hK,λw=>by unfold execOp;rw[hop];simp[hx]⟩
 case h_6 op t x y _ hop=>
  have fin:∀v,K v->(∀w,(do eqGuard op t x y (ev ρ x) (ev ρ y);binOp op t (ev ρ x) (ev ρ y):Sem Value).run P w=.ok v w)->∃v,K v/\∀w,(execOp (ev ρ) o).run P w=.ok (.value v) w:=λv hK hr=>
   ⟨v,hK,zXp (s:=do eqGuard op t x y (ev ρ x) (ev ρ y);binOp op t (ev ρ x) (ev ρ y)) (by unfold execOp;rw[hop]) hr⟩
  split at h
  ·rename_i k a k' b hx hy
   rw[hx,hy]at fin
   split at h
   ·obtain⟨rfl,hb,hK⟩:=h
    exact fin _ hK λw=>by simp[eqGuard,binOp,Op.intDiv,hb]
   ·obtain⟨rfl,hb,hK⟩:=h
    exact fin _ hK λw=>by simp[eqGuard,binOp,Op.intDiv,hb]
   ·obtain⟨hb,hK⟩:=h
    exact fin _ hK λw=>by simp[eqGuard,binOp,Op.shift,Int.not_lt.2 hb]
   ·obtain⟨hb,hK⟩:=h
    exact fin _ hK λw=>by simp[eqGuard,binOp,Op.shift,Int.not_lt.2 hb]
   ·obtain⟨v,hK,hr⟩:=zZB (zQq.intBin _ _ _ _ _ _ _ _) h
    exact fin _ hK hr
  ·rename_i a b hx hy
   rw[hx,hy]at fin
   split at h
   ·obtain⟨hs,hK⟩:=h
    refine fin _ hK λw=>?_
    have:¬(((a.size+b.size:Nat):Int) > IntKind.i64.max):=by
     have e:IntKind.i64.max=9223372036854775807:=by decide
     rw[e];omega
    simp only[eqGuard,binOp,Op.stringOp]
    rw[if_neg this]
    simp
   ·obtain⟨v,hK,hr⟩:=zZB (zQq.strBin _ _ _ _ _ _) h
    exact fin _ hK hr
  ·obtain⟨v,hr,hK⟩:=Shp.ex_elim h
   exact fin _ hK hr
 case h_7 op _ x hop=>
  split at h
  ·rename_i b hx
   obtain⟨v,hK,hr⟩:=zZB (zQq.unary _ _ (by simp)) h
   exact⟨v,hK,zXp (s:=Op.unary op (ev ρ x)) (by unfold execOp;rw[hop]) (by rw[hx];exact hr)⟩
  ·rename_i k n hx
   obtain⟨v,hK,hr⟩:=zZB (zQq.unary _ _ (by simp)) h
   exact⟨v,hK,zXp (s:=Op.unary op (ev ρ x)) (by unfold execOp;rw[hop]) (by rw[hx];exact hr)⟩
  ·exact h.elim
 case h_8 src dst x hop=>
  split at h
  ·rename_i k n k1 k' hx hs hd
   refine⟨_,h,zXp (s:=convert src dst (ev ρ x)) (by unfold execOp;rw[hop]) λw=>?_⟩
   simp[convert,zQo hs,zQo hd,hx,Conv.intToInt]
  ·exact h.elim
 case h_9 fn first cap hop=>
  rw[zJu,zJu]at h
  exact⟨_,h,zXp (s:=Instr.makeFunc fn (first.map (ev ρ)) (cap.map (ev ρ))) (by unfold execOp;rw[hop]) λw=>rfl⟩
 case h_10 t x lo hi hop=>
  have h':zVH P t (ev ρ x) (lo.map (ev ρ)) (hi.map (ev ρ)) K:=by cases lo <;> cases hi <;> exact h
  obtain⟨v,_,hK,hr⟩:=zV9 (w:=default) (yWC h')
  exact⟨v,hK,zXp (s:=Instr.sliceAt t (ev ρ x) (lo.map (ev ρ)) (hi.map (ev ρ)) none) (by unfold execOp;rw[hop];rfl) hr⟩
 case h_11 s x f hop=>
  obtain⟨a,hx,h⟩:=zXm h
  obtain⟨b,hK,hr⟩:=zVS h
  exact⟨_,hK,zXp (s:=Instr.fieldAt s (ev ρ x) f) (by unfold execOp;rw[hop]) (by rw[hx];exact hr)⟩
 case h_12 t x f hop=>
  split at h
  ·rename_i cs hx
   obtain⟨v,hK,hr⟩:=zZB (zQq.field _ _ _) h
   exact⟨v,hK,zXp (s:=Instr.field t (ev ρ x) f) (by unfold execOp;rw[hop]) (by rw[hx];exact hr)⟩
  ·exact h.elim
 case h_13 t x i hop=>
  obtain⟨a,hr,hK,hrw⟩:=zWS (K:=λa=>K (.pointer (some a))/\∀w,(Instr.indexAt t (ev ρ x) (ev ρ i)).run P w=.ok (.pointer (some a)) w) (w:=default) (yJ3 h)
  exact⟨_,hK,zXp (s:=Instr.indexAt t (ev ρ x) (ev ρ i)) (by unfold execOp;rw[hop]) hrw⟩
 case h_14 t x i hop=>
  split at h
  ·rename_i s hx
   obtain⟨k,n,hi,h⟩:=zKy h
   split at h
   ·rename_i hu
    obtain⟨b,h0,hb,hK⟩:=h
    refine⟨_,hK,zXp (s:=Instr.index t (ev ρ x) (ev ρ i)) (by unfold execOp;rw[hop]) λw=>?_⟩
    simp[hx,hi,Instr.index,asIntOf,zQo hu,h0,hb]
   ·exact h.elim
  ·split at h
   ·obtain⟨v,hr,hK⟩:=Shp.ex_elim h
    exact⟨_,hK,zXp (s:=Instr.index t (ev ρ x) (ev ρ i)) (by unfold execOp;rw[hop]) hr⟩
   ·exact h.elim
 case h_15 t ix hop=>
  obtain⟨v,hK,hr⟩:=zZB (zQq.extract _ _) h
  have hK:=Shp.dec_elim hK
  exact⟨v,hK,zXp (s:=Instr.extract (ev ρ t) ix) (by unfold execOp;rw[hop]) hr⟩
 case h_16 c hop=>
  split at h
  ·rename_i hc
   have key:∀x,c.args.toList.map (ev ρ)=[x]->zQq P (Builtin.len_ c.argTypes o.type #[x])->yYk P (Builtin.len_ c.argTypes o.type #[x]) K->∃v,K v/\∀w,(execOp (ev ρ) o).run P w=.ok (.value v) w:=λx hx hst h=>by
    obtain⟨v,hK,hr⟩:=zZB hst h
    have e:c.args.map (ev ρ)=#[x]:=by apply Array.ext';simpa using hx
    refine⟨v,hK,zXp (s:=Builtin.len_ c.argTypes o.type #[x]) ?_ hr⟩
    unfold execOp
    simp only[hop]
    unfold resolve
    simp only[hc,e]
    rfl
   split at h
   ·rename_i s hx;exact key _ hx (zQq.len _ _ _ (by simp) (by simp)) h
   ·rename_i a n m hx;exact key _ hx (zQq.len _ _ _ (by simp) (by simp)) h
   ·exact h.elim
  ·exact h.elim
 case h_17=>exact h.elim
end Go.Sh
