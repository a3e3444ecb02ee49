import Derived.Test.YtaeecpjhfmcliaaGreatDoorShFour
/- Operations that touch no memory ('pureOp'), and those that only read it ('lopE'), and their soundness in every world that is asked of. For every program. -/
namespace Go.Sh
variable {P : Program}
def zQp(P:Program){α:Type}(s:Sem α):Prop:=∀w1 w2 v w',s.run P w1=.ok v w'->w'=w1/\s.run P w2=.ok v w2
def zXc(P:Program){α:Type}(s:Sem α):Prop:=∀w v w',s.run P w ≠ .ok v w'
theorem zXc.still{α:Type}{s:Sem α}(h:zXc P s):zQp P s:=λw1 _ v w' e=>absurd e (h w1 v w')
theorem zQp.pure{α:Type}(a:α):zQp P (Pure.pure a:Sem α):=λw1 w2 v w' e=>by
 simp only[Sem.run_pure,Result.ok.injEq]at e ⊢;exact⟨e.2.symm,e.1,trivial⟩
theorem zQp.bind {α β:Type} {s:Sem α} {f:α->Sem β} (h:zQp P s) (hf:∀a,zQp P (f a)):zQp P (s >>= f):=λw1 w2 v w' e=>by
 rw[Sem.run_bind]at e ⊢
 cases hr:s.run P w1 with
 | halt x y=>rw[hr]at e;simp[Result.andThen]at e
 | ok a wa=>
  rw[hr]at e
  simp only[Result.andThen_ok]at e
  obtain⟨rfl,h2⟩:=h w1 w2 a wa hr
  rw[h2]
  simp only[Result.andThen_ok]
  exact hf a _ w2 v w' e
theorem zXc.halt{α:Type}(h:Halt):zXc P (.halt h:Sem α):=λ_ _ _ e=>by simp at e
theorem zXc.bind {α β:Type} {s:Sem α} {f:α->Sem β} (h:∀a,zXc P (f a)):zXc P (s >>= f):=λw v w' e=>by
 rw[Sem.run_bind]at e
 cases hr:s.run P w with
 | halt x y=>rw[hr]at e;simp[Result.andThen]at e
 | ok a wa=>rw[hr]at e;exact h a _ _ _ e
theorem zXc.stuck{α:Type}(m:String):zXc P (stuck m:Sem α):=zXc.halt _
theorem zXc.unsup{α:Type}(m:Unsupported):zXc P (unsupported m:Sem α):=zXc.halt _
theorem zXc.goPanic{α:Type}(m:Value):zXc P (goPanic m:Sem α):=zXc.halt _
theorem zXc.runtimePanic{α:Type}(e:RuntimeError):zXc P (runtimePanic e:Sem α):=by
 unfold Go.runtimePanic
 refine zXc.bind λp=>?_
 cases e <;> simp only <;> first
  | exact zXc.goPanic _
  | (refine zXc.bind λ_=>?_;first|exact zXc.goPanic _|(refine zXc.bind λ_=>?_;exact zXc.goPanic _))
theorem zQp.underlying(t:TypeId):zQp P (underlying t):=by
 unfold Go.underlying
 refine zQp.bind (λw1 w2 v w' e=>?_) λp=>?_
 ·simp only[run_program,Result.ok.injEq]at e ⊢;exact⟨e.2.symm,e.1,trivial⟩
 ·split
  ·exact zQp.pure _
  ·exact(zXc.stuck _).still
theorem zQp.typeInfo(t:TypeId):zQp P (typeInfo t):=by
 unfold Go.typeInfo
 refine zQp.bind (λw1 w2 v w' e=>?_) λp=>?_
 ·simp only[run_program,Result.ok.injEq]at e ⊢;exact⟨e.2.symm,e.1,trivial⟩
 ·split
  ·exact zQp.pure _
  ·exact(zXc.stuck _).still
theorem zQp.sizeOf(t:TypeId):zQp P (sizeOf t):=zQp.bind (zQp.typeInfo t) λ_=>zQp.pure _
theorem zQp.isAgg(t:TypeId):zQp P (isAgg t):=by
 unfold Go.isAgg
 refine zQp.bind (zQp.underlying t) λd=>?_
 split <;> exact zQp.pure _
theorem zQp.zeroValue(t:TypeId):zQp P (zeroValue t):=by
 unfold Go.zeroValue
 refine zQp.bind (zQp.typeInfo t) λd=>?_
 split
 ·exact zQp.pure _
 ·exact(zXc.unsup _).still
theorem zQp.part(t:TypeId)(cs:Array Value)(off:Nat):zQp P (part t cs off):=by
 unfold Go.part
 refine zQp.bind (zQp.isAgg t) λb=>?_
 split
 ·exact zQp.bind (zQp.sizeOf t) λ_=>zQp.pure _
 ·split
  ·exact zQp.pure _
  ·exact(zXc.stuck _).still
theorem zQp.field(t:TypeId)(cs:Array Value)(f:Nat):zQp P (Instr.field t (.agg cs) f):=by
 unfold Instr.field
 refine zQp.bind (zQp.underlying t) λd=>?_
 split
 ·split
  ·exact zQp.bind (zQp.pure _) λ_=>zQp.part _ _ _
  ·exact(zXc.stuck _).still
 ·exact(zXc.stuck _).still
theorem zQp.extract(v:Value)(i:Nat):zQp P (Instr.extract v i):=by
 unfold Instr.extract
 split
 ·split
  ·exact zQp.pure _
  ·exact(zXc.stuck _).still
 ·exact(zXc.stuck _).still
theorem zQp.mapM {α β:Type} (f:α->Sem β) (hf:∀a,zQp P (f a)):∀l:List α,zQp P (l.mapM f)
 | []=>by simpa using zQp.pure _
 | a :: l=>by
  rw[List.mapM_cons]
  exact zQp.bind (hf a) λ_=>zQp.bind (zQp.mapM f hf l) λ_=>zQp.pure _
theorem zQp.build (t:TypeId) (ps:Array (Nat × Value)):zQp P (Instr.build t ps):=by
 unfold Instr.build
 refine zQp.bind (zQp.zeroValue t) λz=>?_
 refine zQp.bind (zQp.underlying t) λd=>?_
 split
 ·refine zQp.bind ?_ λpl=>?_
  ·rw[Array.mapM_eq_mapM_toList]
   exact zQp.bind (zQp.mapM _ (λ_=>zQp.bind (zQp.sizeOf _) λ_=>zQp.pure _) _) λ_=>zQp.pure _
  ·split
   ·exact zQp.pure _
   ·exact(zXc.stuck _).still
 ·refine zQp.bind (zQp.sizeOf _) λs=>?_
  split
  ·exact zQp.pure _
  ·exact(zXc.stuck _).still
 ·exact(zXc.stuck _).still
theorem zQp.intBin(op:BinOp)(t:TypeId)(x y:Operand)(k k':IntKind)(a b:Int):zQp P (do eqGuard op t x y (.int k a) (.int k' b);binOp op t (.int k a) (.int k' b):Sem Value):=by
 refine zQp.bind ?_ λ_=>?_
 ·unfold eqGuard
  cases op <;> exact zQp.pure _
 ·have hsh:zQp P (Op.shift op k a k' b):=by
   unfold Op.shift
   split
   ·exact(zXc.runtimePanic _).still
   ·cases op <;> first|exact zQp.pure _|exact(zXc.stuck _).still
  have har:∀o,zQp P (Op.intArith o k a b):=λo=>by
   unfold Op.intArith;cases o <;> first|exact zQp.pure _|exact(zXc.stuck _).still
  have hdv:∀o,zQp P (Op.intDiv o k a b):=λo=>by
   unfold Op.intDiv
   split
   ·exact(zXc.runtimePanic _).still
   ·cases o <;> first|exact zQp.pure _|exact(zXc.stuck _).still
  have hbt:∀o,zQp P (Op.intBits o k a b):=λo=>by
   unfold Op.intBits;cases o <;> first|exact zQp.pure _|exact(zXc.stuck _).still
  have hcm:∀o,zQp P (Op.intCmp o a b):=λo=>by
   unfold Op.intCmp;cases o <;> first|exact zQp.pure _|exact(zXc.stuck _).still
  by_cases hk:k=k'
  ·subst hk
   cases op <;> simp only[binOp,ne_eq,not_true_eq_false,if_false] <;> first|exact har _|exact hdv _|exact hbt _|exact hcm _|exact hsh
  ·cases op <;> simp only[binOp,ne_eq,hk,not_false_eq_true,if_true] <;> first|exact(zXc.stuck _).still|exact hsh
theorem zQp.strBin(op:BinOp)(t:TypeId)(x y:Operand)(a b:ByteArray):zQp P (do eqGuard op t x y (.string a) (.string b);binOp op t (.string a) (.string b):Sem Value):=by
 refine zQp.bind ?_ λ_=>?_
 ·unfold eqGuard
  cases op <;> exact zQp.pure _
 ·have h:zQp P (Op.stringOp op a b):=by
   unfold Op.stringOp
   cases op <;> simp only <;> first|exact zQp.pure _|exact(zXc.stuck _).still|(split;exact(zXc.unsup _).still;exact zQp.pure _)
  cases op <;> exact h
theorem zQp.unary(op:UnOp)(v:Value)(hv:∀p,v ≠ .pointer p):zQp P (Op.unary op v):=by
 have har:∀(o:BinOp) (k:IntKind) (a b:Int),zQp P (Op.intArith o k a b):=λo k a b=>by
  unfold Op.intArith;cases o <;> first|exact zQp.pure _|exact(zXc.stuck _).still
 have hbt:∀(o:BinOp) (k:IntKind) (a b:Int),zQp P (Op.intBits o k a b):=λo k a b=>by
  unfold Op.intBits;cases o <;> first|exact zQp.pure _|exact(zXc.stuck _).still
 cases op <;> cases v <;> simp only[Op.unary] <;> first|exact har _ _ _ _|exact hbt _ _ _ _|exact zQp.pure _|exact(zXc.stuck _).still|exact absurd rfl (hv _)
theorem zQp.len(at_:Array TypeId)(t:TypeId)(v:Value)(hv:∀m,v ≠ .map m)(hc:∀m,v ≠ .chan m):zQp P (Builtin.len_ at_ t #[v]):=by
 unfold Builtin.len_
 split
 ·rename_i t' x hx
  refine zQp.bind (zQp.underlying _) λd=>?_
  split <;> first
   | exact zQp.pure _
   | exact(zXc.stuck _).still
   | skip
  ·refine zQp.bind (zQp.underlying _) λd=>?_
   split
   ·exact zQp.pure _
   ·exact(zXc.stuck _).still
  ·simp at hx;exact absurd hx.2 (hv _)
  ·simp at hx;exact absurd hx.2 (hc _)
 ·exact(zXc.stuck _).still
def yYi(P:Program)(s:Sem Value)(K:Value->Prop):Prop:=match s.run P (default:World)with
 | .ok v _=>K v
 | .halt _ _=>False
theorem zZA{s:Sem Value}{K:Value->Prop}(hs:zQp P s)(h:yYi P s K):∃v,K v/\∀w,s.run P w=.ok v w:=by
 unfold yYi at h
 split at h
 ·rename_i v w' hr
  refine⟨v,h,λw=>?_⟩
  have:=hs _ w _ _ hr
  exact this.2
 ·exact h.elim
def runP(P:Program)(sh:Shp)(s:Sem Value)(K:Value->Prop):Prop:=sh.ex λv=>(∀w,s.run P w=.ok v w)/\K v
def zVe(P:Program)(s:TypeId)(f:Nat)(a:Addr)(K:Addr->Prop):Prop:=
 match P.underlying s with
 | some (.struct fs)=>match fs[f]? with
  | some fd=>match P.info? fd.type with
   | some i=>match Nat.beq i.size 0 with
    | false=>K (a.add fd.offset)
    | true=>False
   | none=>False
  | none=>False
 | _=>False
theorem zVU{s:TypeId}{f:Nat}{a:Addr}{K:Addr->Prop}(h:zVe P s f a K):∃b,K b/\∀w,(Instr.fieldAt s (.pointer (some a)) f).run P w=.ok (.pointer (some b)) w:=by
 unfold zVe at h
 split at h
 case h_2=>exact h.elim
 rename_i fs hu
 split at h
 case h_2=>exact h.elim
 rename_i fd hfd
 split at h
 case h_2=>exact h.elim
 rename_i i hi
 split at h
 case h_2=>exact h.elim
 rename_i hz
 refine⟨_,h,λw=>?_⟩
 have hz':i.size ≠ 0:=by intro e;rw[e]at hz;cases hz
 simp[Instr.fieldAt,zQn hu,hfd,Instr.sureAddr,fieldPlace,sizeOf,yKG hi,hz']
theorem yW8{t:TypeId}{v:Value}{lo hi:Option Value}{K:Value->Prop}(h:zVD P t v lo hi K) :
  zVD P t v lo hi λr=>K r/\∀w,(Instr.sliceAt t v lo hi none).run P w=.ok r w:=by
 unfold zVD at h ⊢
 cases hu:P.underlying t with
 | none=>rw[hu]at h;exact h.elim
 | some d=>
  rw[hu]at h
  cases d <;> first|exact h.elim|skip
  ·cases v <;> first|exact h.elim|skip
   rename_i s
   simp only at h ⊢
   obtain⟨hh,⟨h1,h⟩,eh⟩:=zX7 h
   obtain⟨l,⟨h2,hK⟩,el⟩:=zX7 h
   have fin:K (.string (s.extract l hh))/\∀w,(Instr.sliceAt t (.string s) lo hi none).run P w=.ok (.string (s.extract l hh)) w:=⟨hK,λw=>by
    have:=zX1 (P:=P) (isS:=false) w eh el h1 h2
    simp[Instr.sliceAt,zQn hu,Instr.slice,this]⟩
   rcases eh with⟨rfl,rfl⟩|⟨k,i,rfl,h0,rfl⟩ <;> rcases el with⟨rfl,rfl⟩|⟨k2,i2,rfl,tM,rfl⟩
   ·exact⟨h1,h2,fin⟩
   ·exact⟨h1,tM,h2,fin⟩
   ·exact⟨h0,h1,h2,fin⟩
   ·exact⟨h0,h1,tM,h2,fin⟩
  ·rename_i e
   cases v <;> first|exact h.elim|skip
   rename_i a len cap
   simp only at h ⊢
   cases hk:zKr P e with
   | false=>rw[hk]at h;exact h.elim
   | true=>
    rw[hk]at h
    simp only at h ⊢
    obtain⟨hh,⟨h1,h⟩,eh⟩:=zX7 h
    obtain⟨l,⟨h2,hK⟩,el⟩:=zX7 h
    have fin:K (.slice (if cap=l then a else a.map (·.add (l * zX9 P e))) (hh - l) (cap - l))/\∀w,(Instr.sliceAt t (.slice a len cap) lo hi none).run P w=.ok (.slice (if cap=l then a else a.map (·.add (l * zX9 P e))) (hh - l) (cap - l)) w:=⟨hK,λw=>by
     have:=zX1 (P:=P) (isS:=true) w eh el h1 h2
     simp[Instr.sliceAt,zQn hu,Instr.slice,this,zQJ (zXg hk).2]⟩
    rcases eh with⟨rfl,rfl⟩|⟨k,i,rfl,h0,rfl⟩ <;> rcases el with⟨rfl,rfl⟩|⟨k2,i2,rfl,tM,rfl⟩
    ·exact⟨h1,h2,fin⟩
    ·exact⟨h1,tM,h2,fin⟩
    ·exact⟨h0,h1,h2,fin⟩
    ·exact⟨h0,h1,tM,h2,fin⟩
  ·rename_i n e
   simp only at h ⊢
   cases hk:zKr P e with
   | false=>rw[hk]at h;exact h.elim
   | true=>
    rw[hk]at h
    simp only at h ⊢
    obtain⟨a,ea,h9⟩:=zXm h
    subst ea
    obtain⟨hh,⟨h1,h⟩,eh⟩:=zX7 h9
    obtain⟨l,⟨h2,hK⟩,el⟩:=zX7 h
    have fin:K (.slice (some (if n=l then a else a.add (l * zX9 P e))) (hh - l) (n - l))/\∀w,(Instr.sliceAt t (.pointer (some a)) lo hi none).run P w=.ok (.slice (some (if n=l then a else a.add (l * zX9 P e))) (hh - l) (n - l)) w:=⟨hK,λw=>by
     have:=zX1 (P:=P) (isS:=false) w eh el h1 h2
     simp[Instr.sliceAt,zQn hu,Instr.sureAddr,this,zQJ (zXg hk).2]⟩
    rcases eh with⟨rfl,rfl⟩|⟨k,i,rfl,h0,rfl⟩ <;> rcases el with⟨rfl,rfl⟩|⟨k2,i2,rfl,tM,rfl⟩
    ·exact⟨h1,h2,fin⟩
    ·exact⟨h1,tM,h2,fin⟩
    ·exact⟨h0,h1,h2,fin⟩
    ·exact⟨h0,h1,tM,h2,fin⟩
theorem yJv{t:TypeId}{v i:Value}{K:Addr->Prop}(h:zW0 P t v i K) :
  zW0 P t v i λa=>K a/\∀w,(Instr.indexAt t v i).run P w=.ok (.pointer (some a)) w:=by
 unfold zW0 at h ⊢
 obtain⟨k,n,rfl,h⟩:=zK8 h
 simp only[xYW]
 split at h
 ·rename_i e hu
  split at h
  case h_2=>exact h.elim
  rename_i b len cap hk _
  obtain⟨a,rfl,h0,h1,hK⟩:=h
  refine⟨a,rfl,h0,h1,hK,λw=>?_⟩
  have hc:0<=n/\n<(len:Int):=⟨h0,h1⟩
  simp[Instr.indexAt,asIntOf,zQn hu,hc,zQJ (zXg hk).2]
 ·rename_i len e hu
  split at h
  case h_2=>exact h.elim
  rename_i hk
  obtain⟨a,rfl,h0,h1,hK⟩:=zXm h
  refine⟨h0,h1,hK,λw=>?_⟩
  have hc:0<=n/\n<(len:Int):=⟨h0,h1⟩
  simp[Instr.indexAt,asIntOf,zQn hu,hc,zQJ (zXg hk).2,Instr.sureAddr]
 ·exact h.elim
def xXZ(P:Program)(o:Oper)(ρ:Env)(K:Value->Prop):Prop:=
 match o.op with
 | .move x=>K (ev ρ x)
 | .assign x=>K (ev ρ x)
 | .pick c a b=>yZA (ev ρ c) λt=>Br t (K (ev ρ a)) (K (ev ρ b))
 | .build t parts=>yYi P (Instr.build t (parts.toList.map λ(i,x)=>(i,ev ρ x)).toArray) K
 | .nilCheck x=>zV3 (ev ρ x) λa=>K (.pointer (some a))
 | .binOp op t x y _=>match ev ρ x,ev ρ y with
  | .int k a,.int k' b=>match op with
   | .quo=>k=k'/\b ≠ 0/\K (.int k (k.wrap (a.tdiv b)))
   | .rem=>k=k'/\b ≠ 0/\K (.int k (a.tmod b))
   | .shl=>0<=b/\K (.int k (k.wrap (a * 2 ^ (min b.toNat k.bits))))
   | .shr=>0<=b/\K (.int k (a.fdiv (2 ^ (min b.toNat k.bits))))
   | op=>yYi P (do eqGuard op t x y (.int k a) (.int k' b);binOp op t (.int k a) (.int k' b)) K
  | .string a,.string b=>match op with
   | .add=>((a.size+b.size:Nat):Int)<=9223372036854775807/\K (.string (a ++ b))
   | op=>yYi P (do eqGuard op t x y (.string a) (.string b);binOp op t (.string a) (.string b)) K
  | vx,vy=>runP P (.one .bool) (do eqGuard op t x y vx vy;binOp op t vx vy) K
 | .unOp op _ x=>match ev ρ x with
  | .bool b=>yYi P (Op.unary op (.bool b)) K
  | .int k n=>yYi P (Op.unary op (.int k n)) K
  | _=>False
 | .convert src dst x=>match ev ρ x,P.underlying src,P.underlying dst with
  | .int _ n,some (.int _),some (.int k')=>K (.int k' (k'.wrap n))
  | _,_,_=>False
 | .makeFunc fn first cap=>K (.func fn (first.toList.map (ev ρ)).toArray (cap.toList.map (ev ρ)).toArray)
 | .slice t x lo hi none=>zVD P t (ev ρ x) (match lo with|some y=>some (ev ρ y)|none=>none) (match hi with|some y=>some (ev ρ y)|none=>none) K
 | .fieldAddr s x f=>zV3 (ev ρ x) λa=>zVe P s f a λb=>K (.pointer (some b))
 | .field t x f=>match ev ρ x with
  | .agg cs=>yYi P (Instr.field t (.agg cs) f) K
  | _=>False
 | .indexAddr t x i=>zW0 P t (ev ρ x) (ev ρ i) λa=>K (.pointer (some a))
 | .index t x i=>match ev ρ x with
  | .string s=>xYW (ev ρ i) λ_ n=>match P.underlying t with
   | some .string=>∃b:UInt8,0<=n/\s[n.toNat]?=some b/\K (.int .u8 b.toNat)
   | _=>False
  | v=>match yYQ P t with
   | some e=>runP P (yYe P e) (Instr.index t v (ev ρ i)) K
   | none=>False
 | .extract t ix=>yYi P (Instr.extract (ev ρ t) ix) λv=>(yYe P o.type).dec v K
 | .call c=>match c.callee with
  | .builtin .len=>match c.args.toList.map (ev ρ)with
   | [.string s]=>yYi P (Builtin.len_ c.argTypes o.type #[.string s]) K
   | [.slice a n m]=>yYi P (Builtin.len_ c.argTypes o.type #[.slice a n m]) K
   | _=>False
  | _=>False
 | _=>False
theorem zXq {o:Oper} {ρ:Operand->Value} {s:Sem Value} {v:Value} (e:execOp ρ o=(do pure (.value (←s)))) (h:∀w,s.run P w=.ok v w):∀w,(execOp ρ o).run P w=.ok (.value v) w:=λw=>by
 rw[e];simp[h w]
theorem yZ2{o:Oper}{ρ:Env}{K:Value->Prop}(h:xXZ P o ρ K):∃v,K v/\∀w,(execOp (ev ρ) o).run P w=.ok (.value v) w:=by
 unfold xXZ at h
 split at h
 case h_1 x hop=>exact⟨_,h,λw=>by unfold execOp;rw[hop];rfl⟩
 case h_2 x hop=>exact⟨_,h,λw=>by unfold execOp;rw[hop];rfl⟩
 case h_3 c a b hop=>
  unfold yZA at h
  split at h
  ·rename_i t ht
   refine⟨if t then ev ρ a else ev ρ b,by cases t <;> exact h,λw=>?_⟩
   unfold execOp;rw[hop];simp[ht,asBool]
  ·exact h.elim
 case h_4 t parts hop=>
  rw[zJm]at h
  obtain⟨v,hK,hr⟩:=zZA (zQp.build _ _) h
  exact⟨v,hK,zXq (by unfold execOp;rw[hop]) hr⟩
 case h_5 x hop=>
  obtain⟨a,hx,hK⟩:=zXm h
  exact⟨_,hK,λw=>by unfold execOp;rw[hop];simp[hx]⟩
 case h_6 op t x y _ hop=>
  have fin:∀v,K v->(∀w,(do eqGuard op t x y (ev ρ x) (ev ρ y);binOp op t (ev ρ x) (ev ρ y):Sem Value).run P w=.ok v w)->∃v,K v/\∀w,(execOp (ev ρ) o).run P w=.ok (.value v) w:=λv hK hr=>
   ⟨v,hK,zXq (s:=do eqGuard op t x y (ev ρ x) (ev ρ y);binOp op t (ev ρ x) (ev ρ y)) (by unfold execOp;rw[hop]) hr⟩
  split at h
  ·rename_i k a k' b hx hy
   rw[hx,hy]at fin
   split at h
   ·obtain⟨rfl,hb,hK⟩:=h
    exact fin _ hK λw=>by simp[eqGuard,binOp,Op.intDiv,hb]
   ·obtain⟨rfl,hb,hK⟩:=h
    exact fin _ hK λw=>by simp[eqGuard,binOp,Op.intDiv,hb]
   ·obtain⟨hb,hK⟩:=h
    exact fin _ hK λw=>by simp[eqGuard,binOp,Op.shift,Int.not_lt.2 hb]
   ·obtain⟨hb,hK⟩:=h
    exact fin _ hK λw=>by simp[eqGuard,binOp,Op.shift,Int.not_lt.2 hb]
   ·obtain⟨v,hK,hr⟩:=zZA (zQp.intBin _ _ _ _ _ _ _ _) h
    exact fin _ hK hr
  ·rename_i a b hx hy
   rw[hx,hy]at fin
   split at h
   ·obtain⟨hs,hK⟩:=h
    refine fin _ hK λw=>?_
    have:¬(((a.size+b.size:Nat):Int) > IntKind.i64.max):=by
     have e:IntKind.i64.max=9223372036854775807:=by decide
     rw[e];omega
    simp only[eqGuard,binOp,Op.stringOp]
    rw[if_neg this]
    simp
   ·obtain⟨v,hK,hr⟩:=zZA (zQp.strBin _ _ _ _ _ _) h
    exact fin _ hK hr
  ·obtain⟨v,hr,hK⟩:=Shp.ex_elim h
   exact fin _ hK hr
 case h_7 op _ x hop=>
  split at h
  ·rename_i b hx
   obtain⟨v,hK,hr⟩:=zZA (zQp.unary _ _ (by simp)) h
   exact⟨v,hK,zXq (s:=Op.unary op (ev ρ x)) (by unfold execOp;rw[hop]) (by rw[hx];exact hr)⟩
  ·rename_i k n hx
   obtain⟨v,hK,hr⟩:=zZA (zQp.unary _ _ (by simp)) h
   exact⟨v,hK,zXq (s:=Op.unary op (ev ρ x)) (by unfold execOp;rw[hop]) (by rw[hx];exact hr)⟩
  ·exact h.elim
 case h_8 src dst x hop=>
  split at h
  ·rename_i k n k1 k' hx hs hd
   refine⟨_,h,zXq (s:=convert src dst (ev ρ x)) (by unfold execOp;rw[hop]) λw=>?_⟩
   simp[convert,zQn hs,zQn hd,hx,Conv.intToInt]
  ·exact h.elim
 case h_9 fn first cap hop=>
  rw[zJm,zJm]at h
  exact⟨_,h,zXq (s:=Instr.makeFunc fn (first.map (ev ρ)) (cap.map (ev ρ))) (by unfold execOp;rw[hop]) λw=>rfl⟩
 case h_10 t x lo hi hop=>
  have h':zVD P t (ev ρ x) (lo.map (ev ρ)) (hi.map (ev ρ)) K:=by cases lo <;> cases hi <;> exact h
  obtain⟨v,_,hK,hr⟩:=zV9 (w:=default) (yW8 h')
  exact⟨v,hK,zXq (s:=Instr.sliceAt t (ev ρ x) (lo.map (ev ρ)) (hi.map (ev ρ)) none) (by unfold execOp;rw[hop];rfl) hr⟩
 case h_11 s x f hop=>
  obtain⟨a,hx,h⟩:=zXm h
  obtain⟨b,hK,hr⟩:=zVU h
  exact⟨_,hK,zXq (s:=Instr.fieldAt s (ev ρ x) f) (by unfold execOp;rw[hop]) (by rw[hx];exact hr)⟩
 case h_12 t x f hop=>
  split at h
  ·rename_i cs hx
   obtain⟨v,hK,hr⟩:=zZA (zQp.field _ _ _) h
   exact⟨v,hK,zXq (s:=Instr.field t (ev ρ x) f) (by unfold execOp;rw[hop]) (by rw[hx];exact hr)⟩
  ·exact h.elim
 case h_13 t x i hop=>
  obtain⟨a,hr,hK,hrw⟩:=zWU (K:=λa=>K (.pointer (some a))/\∀w,(Instr.indexAt t (ev ρ x) (ev ρ i)).run P w=.ok (.pointer (some a)) w) (w:=default) (yJv h)
  exact⟨_,hK,zXq (s:=Instr.indexAt t (ev ρ x) (ev ρ i)) (by unfold execOp;rw[hop]) hrw⟩
 case h_14 t x i hop=>
  split at h
  ·rename_i s hx
   obtain⟨k,n,hi,h⟩:=zK8 h
   split at h
   ·rename_i hu
    obtain⟨b,h0,hb,hK⟩:=h
    refine⟨_,hK,zXq (s:=Instr.index t (ev ρ x) (ev ρ i)) (by unfold execOp;rw[hop]) λw=>?_⟩
    simp[hx,hi,Instr.index,asIntOf,zQn hu,h0,hb]
   ·exact h.elim
  ·split at h
   ·obtain⟨v,hr,hK⟩:=Shp.ex_elim h
    exact⟨_,hK,zXq (s:=Instr.index t (ev ρ x) (ev ρ i)) (by unfold execOp;rw[hop]) hr⟩
   ·exact h.elim
 case h_15 t ix hop=>
  obtain⟨v,hK,hr⟩:=zZA (zQp.extract _ _) h
  have hK:=Shp.dec_elim hK
  exact⟨v,hK,zXq (s:=Instr.extract (ev ρ t) ix) (by unfold execOp;rw[hop]) hr⟩
 case h_16 c hop=>
  split at h
  ·rename_i hc
   have key:∀x,c.args.toList.map (ev ρ)=[x]->zQp P (Builtin.len_ c.argTypes o.type #[x])->yYi P (Builtin.len_ c.argTypes o.type #[x]) K->∃v,K v/\∀w,(execOp (ev ρ) o).run P w=.ok (.value v) w:=λx hx hst h=>by
    obtain⟨v,hK,hr⟩:=zZA hst h
    have e:c.args.map (ev ρ)=#[x]:=by apply Array.ext';simpa using hx
    refine⟨v,hK,zXq (s:=Builtin.len_ c.argTypes o.type #[x]) ?_ hr⟩
    unfold execOp
    simp only[hop]
    unfold resolve
    simp only[hc,e]
    rfl
   split at h
   ·rename_i s hx;exact key _ hx (zQp.len _ _ _ (by simp) (by simp)) h
   ·rename_i a n m hx;exact key _ hx (zQp.len _ _ _ (by simp) (by simp)) h
   ·exact h.elim
  ·exact h.elim
 case h_17=>exact h.elim
end Go.Sh
