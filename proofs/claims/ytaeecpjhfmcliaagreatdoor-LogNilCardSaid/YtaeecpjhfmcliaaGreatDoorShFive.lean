import Derived.Test.YtaeecpjhfmcliaaGreatDoorShFour
/- Operations that touch no memory ('pureOp'), and those that only read it ('lopE'), and their soundness in every world that is asked of. For every program. -/
namespace Go.Sh
variable {P : Program}
def zQk(P:Program){α:Type}(s:Sem α):Prop:=∀w1 w2 v w',s.run P w1=.ok v w'->w'=w1/\s.run P w2=.ok v w2
def zQE(P:Program){α:Type}(s:Sem α):Prop:=∀w v w',s.run P w ≠ .ok v w'
theorem zQE.still{α:Type}{s:Sem α}(h:zQE P s):zQk P s:=λw1 _ v w' e=>absurd e (h w1 v w')
theorem zQk.pure{α:Type}(a:α):zQk P (Pure.pure a:Sem α):=λw1 w2 v w' e=>by
 simp only[Sem.run_pure,Result.ok.injEq]at e ⊢;exact⟨e.2.symm,e.1,trivial⟩
theorem zQk.bind {α β:Type} {s:Sem α} {f:α->Sem β} (h:zQk P s) (hf:∀a,zQk P (f a)):zQk P (s >>= f):=λw1 w2 v w' e=>by
 rw[Sem.run_bind]at e ⊢
 cases hr:s.run P w1 with
 | halt x y=>rw[hr]at e;simp[Result.andThen]at e
 | ok a wa=>
  rw[hr]at e
  simp only[Result.andThen_ok]at e
  obtain⟨rfl,h2⟩:=h w1 w2 a wa hr
  rw[h2]
  simp only[Result.andThen_ok]
  exact hf a _ w2 v w' e
theorem zQE.halt{α:Type}(h:Halt):zQE P (.halt h:Sem α):=λ_ _ _ e=>by simp at e
theorem zQE.bind {α β:Type} {s:Sem α} {f:α->Sem β} (h:∀a,zQE P (f a)):zQE P (s >>= f):=λw v w' e=>by
 rw[Sem.run_bind]at e
 cases hr:s.run P w with
 | halt x y=>rw[hr]at e;simp[Result.andThen]at e
 | ok a wa=>rw[hr]at e;exact h a _ _ _ e
theorem zQE.stuck{α:Type}(m:String):zQE P (stuck m:Sem α):=zQE.halt _
theorem zQE.unsup{α:Type}(m:Unsupported):zQE P (unsupported m:Sem α):=zQE.halt _
theorem zQE.goPanic{α:Type}(m:Value):zQE P (goPanic m:Sem α):=zQE.halt _
theorem zQE.runtimePanic{α:Type}(e:RuntimeError):zQE P (runtimePanic e:Sem α):=by
 unfold Go.runtimePanic
 refine zQE.bind λp=>?_
 cases e <;> simp only <;> first
  | exact zQE.goPanic _
  | (refine zQE.bind λ_=>?_;first|exact zQE.goPanic _|(refine zQE.bind λ_=>?_;exact zQE.goPanic _))
theorem zQk.underlying(t:TypeId):zQk P (underlying t):=by
 unfold Go.underlying
 refine zQk.bind (λw1 w2 v w' e=>?_) λp=>?_
 ·simp only[run_program,Result.ok.injEq]at e ⊢;exact⟨e.2.symm,e.1,trivial⟩
 ·split
  ·exact zQk.pure _
  ·exact(zQE.stuck _).still
theorem zQk.typeInfo(t:TypeId):zQk P (typeInfo t):=by
 unfold Go.typeInfo
 refine zQk.bind (λw1 w2 v w' e=>?_) λp=>?_
 ·simp only[run_program,Result.ok.injEq]at e ⊢;exact⟨e.2.symm,e.1,trivial⟩
 ·split
  ·exact zQk.pure _
  ·exact(zQE.stuck _).still
theorem zQk.sizeOf(t:TypeId):zQk P (sizeOf t):=zQk.bind (zQk.typeInfo t) λ_=>zQk.pure _
theorem zQk.isAgg(t:TypeId):zQk P (isAgg t):=by
 unfold Go.isAgg
 refine zQk.bind (zQk.underlying t) λd=>?_
 split <;> exact zQk.pure _
theorem zQk.zeroValue(t:TypeId):zQk P (zeroValue t):=by
 unfold Go.zeroValue
 refine zQk.bind (zQk.typeInfo t) λd=>?_
 split
 ·exact zQk.pure _
 ·exact(zQE.unsup _).still
theorem zQk.part(t:TypeId)(cs:Array Value)(off:Nat):zQk P (part t cs off):=by
 unfold Go.part
 refine zQk.bind (zQk.isAgg t) λb=>?_
 split
 ·exact zQk.bind (zQk.sizeOf t) λ_=>zQk.pure _
 ·split
  ·exact zQk.pure _
  ·exact(zQE.stuck _).still
theorem zQk.field(t:TypeId)(cs:Array Value)(f:Nat):zQk P (Instr.field t (.agg cs) f):=by
 unfold Instr.field
 refine zQk.bind (zQk.underlying t) λd=>?_
 split
 ·split
  ·exact zQk.bind (zQk.pure _) λ_=>zQk.part _ _ _
  ·exact(zQE.stuck _).still
 ·exact(zQE.stuck _).still
theorem zQk.extract(v:Value)(i:Nat):zQk P (Instr.extract v i):=by
 unfold Instr.extract
 split
 ·split
  ·exact zQk.pure _
  ·exact(zQE.stuck _).still
 ·exact(zQE.stuck _).still
theorem zQk.mapM {α β:Type} (f:α->Sem β) (hf:∀a,zQk P (f a)):∀l:List α,zQk P (l.mapM f)
 | []=>by simpa using zQk.pure _
 | a :: l=>by
  rw[List.mapM_cons]
  exact zQk.bind (hf a) λ_=>zQk.bind (zQk.mapM f hf l) λ_=>zQk.pure _
theorem zQk.build (t:TypeId) (ps:Array (Nat × Value)):zQk P (Instr.build t ps):=by
 unfold Instr.build
 refine zQk.bind (zQk.zeroValue t) λz=>?_
 refine zQk.bind (zQk.underlying t) λd=>?_
 split
 ·refine zQk.bind ?_ λpl=>?_
  ·rw[Array.mapM_eq_mapM_toList]
   exact zQk.bind (zQk.mapM _ (λ_=>zQk.bind (zQk.sizeOf _) λ_=>zQk.pure _) _) λ_=>zQk.pure _
  ·split
   ·exact zQk.pure _
   ·exact(zQE.stuck _).still
 ·refine zQk.bind (zQk.sizeOf _) λs=>?_
  split
  ·exact zQk.pure _
  ·exact(zQE.stuck _).still
 ·exact(zQE.stuck _).still
theorem zQk.intBin(op:BinOp)(t:TypeId)(x y:Operand)(k k':IntKind)(a b:Int):zQk P (do eqGuard op t x y (.int k a) (.int k' b);binOp op t (.int k a) (.int k' b):Sem Value):=by
 refine zQk.bind ?_ λ_=>?_
 ·unfold eqGuard
  cases op <;> exact zQk.pure _
 ·have hsh:zQk P (Op.shift op k a k' b):=by
   unfold Op.shift
   split
   ·exact(zQE.runtimePanic _).still
   ·cases op <;> first|exact zQk.pure _|exact(zQE.stuck _).still
  have har:∀o,zQk P (Op.intArith o k a b):=λo=>by
   unfold Op.intArith;cases o <;> first|exact zQk.pure _|exact(zQE.stuck _).still
  have hdv:∀o,zQk P (Op.intDiv o k a b):=λo=>by
   unfold Op.intDiv
   split
   ·exact(zQE.runtimePanic _).still
   ·cases o <;> first|exact zQk.pure _|exact(zQE.stuck _).still
  have hbt:∀o,zQk P (Op.intBits o k a b):=λo=>by
   unfold Op.intBits;cases o <;> first|exact zQk.pure _|exact(zQE.stuck _).still
  have hcm:∀o,zQk P (Op.intCmp o a b):=λo=>by
   unfold Op.intCmp;cases o <;> first|exact zQk.pure _|exact(zQE.stuck _).still
  by_cases hk:k=k'
  ·subst hk
   cases op <;> simp only[binOp,ne_eq,not_true_eq_false,if_false] <;> first|exact har _|exact hdv _|exact hbt _|exact hcm _|exact hsh
  ·cases op <;> simp only[binOp,ne_eq,hk,not_false_eq_true,if_true] <;> first|exact(zQE.stuck _).still|exact hsh
theorem zQk.strBin(op:BinOp)(t:TypeId)(x y:Operand)(a b:ByteArray):zQk P (do eqGuard op t x y (.string a) (.string b);binOp op t (.string a) (.string b):Sem Value):=by
 refine zQk.bind ?_ λ_=>?_
 ·unfold eqGuard
  cases op <;> exact zQk.pure _
 ·have h:zQk P (Op.stringOp op a b):=by
   unfold Op.stringOp
   cases op <;> simp only <;> first|exact zQk.pure _|exact(zQE.stuck _).still|(split;exact(zQE.unsup _).still;exact zQk.pure _)
  cases op <;> exact h
theorem zQk.unary(op:UnOp)(v:Value)(hv:∀p,v ≠ .pointer p):zQk P (Op.unary op v):=by
 have har:∀(o:BinOp) (k:IntKind) (a b:Int),zQk P (Op.intArith o k a b):=λo k a b=>by
  unfold Op.intArith;cases o <;> first|exact zQk.pure _|exact(zQE.stuck _).still
 have hbt:∀(o:BinOp) (k:IntKind) (a b:Int),zQk P (Op.intBits o k a b):=λo k a b=>by
  unfold Op.intBits;cases o <;> first|exact zQk.pure _|exact(zQE.stuck _).still
 cases op <;> cases v <;> simp only[Op.unary] <;> first|exact har _ _ _ _|exact hbt _ _ _ _|exact zQk.pure _|exact(zQE.stuck _).still|exact absurd rfl (hv _)
theorem zQk.len(at_:Array TypeId)(t:TypeId)(v:Value)(hv:∀m,v ≠ .map m)(hc:∀m,v ≠ .chan m):zQk P (Builtin.len_ at_ t #[v]):=by
 unfold Builtin.len_
 split
 ·rename_i t' x hx
  refine zQk.bind (zQk.underlying _) λd=>?_
  split <;> first
   | exact zQk.pure _
   | exact(zQE.stuck _).still
   | skip
  ·refine zQk.bind (zQk.underlying _) λd=>?_
   split
   ·exact zQk.pure _
   ·exact(zQE.stuck _).still
  ·simp at hx;exact absurd hx.2 (hv _)
  ·simp at hx;exact absurd hx.2 (hc _)
 ·exact(zQE.stuck _).still
def yKA(P:Program)(s:Sem Value)(K:Value->Prop):Prop:=match s.run P (default:World)with
 | .ok v _=>K v
 | .halt _ _=>False
theorem zXO{s:Sem Value}{K:Value->Prop}(hs:zQk P s)(h:yKA P s K):∃v,K v/\∀w,s.run P w=.ok v w:=by
 unfold yKA at h
 split at h
 ·rename_i v w' hr
  refine⟨v,h,λw=>?_⟩
  have:=hs _ w _ _ hr
  exact this.2
 ·exact h.elim
def runP(P:Program)(sh:Shp)(s:Sem Value)(K:Value->Prop):Prop:=sh.ex λv=>(∀w,s.run P w=.ok v w)/\K v
def zKJ(P:Program)(s:TypeId)(f:Nat)(a:Addr)(K:Addr->Prop):Prop:=
 match P.underlying s with
 | some (.struct fs)=>match fs[f]? with
  | some fd=>match P.info? fd.type with
   | some i=>match Nat.beq i.size 0 with
    | false=>K (a.add fd.offset)
    | true=>False
   | none=>False
  | none=>False
 | _=>False
theorem zWj{s:TypeId}{f:Nat}{a:Addr}{K:Addr->Prop}(h:zKJ P s f a K):∃b,K b/\∀w,(Instr.fieldAt s (.pointer (some a)) f).run P w=.ok (.pointer (some b)) w:=by
 unfold zKJ at h
 split at h
 case h_2=>exact h.elim
 rename_i fs hu
 split at h
 case h_2=>exact h.elim
 rename_i fd hfd
 split at h
 case h_2=>exact h.elim
 rename_i i hi
 split at h
 case h_2=>exact h.elim
 rename_i hz
 refine⟨_,h,λw=>?_⟩
 have hz':i.size ≠ 0:=by intro e;rw[e]at hz;cases hz
 simp[Instr.fieldAt,zQg hu,hfd,Instr.sureAddr,fieldPlace,sizeOf,yZk hi,hz']
theorem yJF{t:TypeId}{v:Value}{lo hi:Option Value}{K:Value->Prop}(h:zKZ P t v lo hi K) :
  zKZ P t v lo hi λr=>K r/\∀w,(Instr.sliceAt t v lo hi none).run P w=.ok r w:=by
 unfold zKZ at h ⊢
 cases hu:P.underlying t with
 | none=>rw[hu]at h;exact h.elim
 | some d=>
  rw[hu]at h
  cases d <;> first|exact h.elim|skip
  ·cases v <;> first|exact h.elim|skip
   rename_i s
   simp only at h ⊢
   obtain⟨hh,⟨h1,h⟩,eh⟩:=zXe h
   obtain⟨l,⟨h2,hK⟩,el⟩:=zXe h
   have fin:K (.string (s.extract l hh))/\∀w,(Instr.sliceAt t (.string s) lo hi none).run P w=.ok (.string (s.extract l hh)) w:=⟨hK,λw=>by
    have:=zQX (P:=P) (isS:=false) w eh el h1 h2
    simp[Instr.sliceAt,zQg hu,Instr.slice,this]⟩
   rcases eh with⟨rfl,rfl⟩|⟨k,i,rfl,h0,rfl⟩ <;> rcases el with⟨rfl,rfl⟩|⟨k2,i2,rfl,mz,rfl⟩
   ·exact⟨h1,h2,fin⟩
   ·exact⟨h1,mz,h2,fin⟩
   ·exact⟨h0,h1,h2,fin⟩
   ·exact⟨h0,h1,mz,h2,fin⟩
  ·rename_i e
   cases v <;> first|exact h.elim|skip
   rename_i a len cap
   simp only at h ⊢
   cases hk:zJd P e with
   | false=>rw[hk]at h;exact h.elim
   | true=>
    rw[hk]at h
    simp only at h ⊢
    obtain⟨hh,⟨h1,h⟩,eh⟩:=zXe h
    obtain⟨l,⟨h2,hK⟩,el⟩:=zXe h
    have fin:K (.slice (if cap=l then a else a.map (·.add (l * zXn P e))) (hh - l) (cap - l))/\∀w,(Instr.sliceAt t (.slice a len cap) lo hi none).run P w=.ok (.slice (if cap=l then a else a.map (·.add (l * zXn P e))) (hh - l) (cap - l)) w:=⟨hK,λw=>by
     have:=zQX (P:=P) (isS:=true) w eh el h1 h2
     simp[Instr.sliceAt,zQg hu,Instr.slice,this,zQ6 (zQN hk).2]⟩
    rcases eh with⟨rfl,rfl⟩|⟨k,i,rfl,h0,rfl⟩ <;> rcases el with⟨rfl,rfl⟩|⟨k2,i2,rfl,mz,rfl⟩
    ·exact⟨h1,h2,fin⟩
    ·exact⟨h1,mz,h2,fin⟩
    ·exact⟨h0,h1,h2,fin⟩
    ·exact⟨h0,h1,mz,h2,fin⟩
  ·rename_i n e
   simp only at h ⊢
   cases hk:zJd P e with
   | false=>rw[hk]at h;exact h.elim
   | true=>
    rw[hk]at h
    simp only at h ⊢
    obtain⟨a,ea,h9⟩:=zQP h
    subst ea
    obtain⟨hh,⟨h1,h⟩,eh⟩:=zXe h9
    obtain⟨l,⟨h2,hK⟩,el⟩:=zXe h
    have fin:K (.slice (some (if n=l then a else a.add (l * zXn P e))) (hh - l) (n - l))/\∀w,(Instr.sliceAt t (.pointer (some a)) lo hi none).run P w=.ok (.slice (some (if n=l then a else a.add (l * zXn P e))) (hh - l) (n - l)) w:=⟨hK,λw=>by
     have:=zQX (P:=P) (isS:=false) w eh el h1 h2
     simp[Instr.sliceAt,zQg hu,Instr.sureAddr,this,zQ6 (zQN hk).2]⟩
    rcases eh with⟨rfl,rfl⟩|⟨k,i,rfl,h0,rfl⟩ <;> rcases el with⟨rfl,rfl⟩|⟨k2,i2,rfl,mz,rfl⟩
    ·exact⟨h1,h2,fin⟩
    ·exact⟨h1,mz,h2,fin⟩
    ·exact⟨h0,h1,h2,fin⟩
    ·exact⟨h0,h1,mz,h2,fin⟩
theorem yXf{t:TypeId}{v i:Value}{K:Addr->Prop}(h:zJX P t v i K) :
  zJX P t v i λa=>K a/\∀w,(Instr.indexAt t v i).run P w=.ok (.pointer (some a)) w:=by
 unfold zJX at h ⊢
 obtain⟨k,n,rfl,h⟩:=zJp h
 simp only[xJq]
 split at h
 ·rename_i e hu
  split at h
  case h_2=>exact h.elim
  rename_i b len cap hk _
  obtain⟨a,rfl,h0,h1,hK⟩:=h
  refine⟨a,rfl,h0,h1,hK,λw=>?_⟩
  have hc:0<=n/\n<(len:Int):=⟨h0,h1⟩
  simp[Instr.indexAt,asIntOf,zQg hu,hc,zQ6 (zQN hk).2]
 ·rename_i len e hu
  split at h
  case h_2=>exact h.elim
  rename_i hk
  obtain⟨a,rfl,h0,h1,hK⟩:=zQP h
  refine⟨h0,h1,hK,λw=>?_⟩
  have hc:0<=n/\n<(len:Int):=⟨h0,h1⟩
  simp[Instr.indexAt,asIntOf,zQg hu,hc,zQ6 (zQN hk).2,Instr.sureAddr]
 ·exact h.elim
def yKE(P:Program)(o:Oper)(ρ:Env)(K:Value->Prop):Prop:=
 match o.op with
 | .move x=>K (ev ρ x)
 | .assign x=>K (ev ρ x)
 | .pick c a b=>yXr (ev ρ c) λt=>Br t (K (ev ρ a)) (K (ev ρ b))
 | .build t parts=>yKA P (Instr.build t (parts.toList.map λ(i,x)=>(i,ev ρ x)).toArray) K
 | .nilCheck x=>zK9 (ev ρ x) λa=>K (.pointer (some a))
 | .binOp op t x y _=>match ev ρ x,ev ρ y with
  | .int k a,.int k' b=>match op with
   | .quo=>k=k'/\b ≠ 0/\K (.int k (k.wrap (a.tdiv b)))
   | .rem=>k=k'/\b ≠ 0/\K (.int k (a.tmod b))
   | .shl=>0<=b/\K (.int k (k.wrap (a * 2 ^ (min b.toNat k.bits))))
   | .shr=>0<=b/\K (.int k (a.fdiv (2 ^ (min b.toNat k.bits))))
   | op=>yKA P (do eqGuard op t x y (.int k a) (.int k' b);binOp op t (.int k a) (.int k' b)) K
  | .string a,.string b=>match op with
   | .add=>((a.size+b.size:Nat):Int)<=9223372036854775807/\K (.string (a ++ b))
   | op=>yKA P (do eqGuard op t x y (.string a) (.string b);binOp op t (.string a) (.string b)) K
  | vx,vy=>runP P (.one .bool) (do eqGuard op t x y vx vy;binOp op t vx vy) K
 | .unOp op _ x=>match ev ρ x with
  | .bool b=>yKA P (Op.unary op (.bool b)) K
  | .int k n=>yKA P (Op.unary op (.int k n)) K
  | _=>False
 | .convert src dst x=>match ev ρ x,P.underlying src,P.underlying dst with
  | .int _ n,some (.int _),some (.int k')=>K (.int k' (k'.wrap n))
  | _,_,_=>False
 | .makeFunc fn first cap=>K (.func fn (first.toList.map (ev ρ)).toArray (cap.toList.map (ev ρ)).toArray)
 | .slice t x lo hi none=>zKZ P t (ev ρ x) (match lo with|some y=>some (ev ρ y)|none=>none) (match hi with|some y=>some (ev ρ y)|none=>none) K
 | .fieldAddr s x f=>zK9 (ev ρ x) λa=>zKJ P s f a λb=>K (.pointer (some b))
 | .field t x f=>match ev ρ x with
  | .agg cs=>yKA P (Instr.field t (.agg cs) f) K
  | _=>False
 | .indexAddr t x i=>zJX P t (ev ρ x) (ev ρ i) λa=>K (.pointer (some a))
 | .index t x i=>match ev ρ x with
  | .string s=>xJq (ev ρ i) λ_ n=>match P.underlying t with
   | some .string=>∃b:UInt8,0<=n/\s[n.toNat]?=some b/\K (.int .u8 b.toNat)
   | _=>False
  | v=>match yWX P t with
   | some e=>runP P (yK9 P e) (Instr.index t v (ev ρ i)) K
   | none=>False
 | .extract t ix=>yKA P (Instr.extract (ev ρ t) ix) λv=>(yK9 P o.type).dec v K
 | .call c=>match c.callee with
  | .builtin .len=>match c.args.toList.map (ev ρ)with
   | [.string s]=>yKA P (Builtin.len_ c.argTypes o.type #[.string s]) K
   | [.slice a n m]=>yKA P (Builtin.len_ c.argTypes o.type #[.slice a n m]) K
   | _=>False
  | _=>False
 | _=>False
theorem zQQ {o:Oper} {ρ:Operand->Value} {s:Sem Value} {v:Value} (e:execOp ρ o=(do pure (.value (←s)))) (h:∀w,s.run P w=.ok v w):∀w,(execOp ρ o).run P w=.ok (.value v) w:=λw=>by
 rw[e];simp[h w]
theorem yQt{o:Oper}{ρ:Env}{K:Value->Prop}(h:yKE P o ρ K):∃v,K v/\∀w,(execOp (ev ρ) o).run P w=.ok (.value v) w:=by
 unfold yKE at h
 split at h
 case h_1 x hop=>exact⟨_,h,λw=>by unfold execOp;rw[hop];rfl⟩
 case h_2 x hop=>exact⟨_,h,λw=>by unfold execOp;rw[hop];rfl⟩
 case h_3 c a b hop=>
  unfold yXr at h
  split at h
  ·rename_i t ht
   refine⟨if t then ev ρ a else ev ρ b,by cases t <;> exact h,λw=>?_⟩
   unfold execOp;rw[hop];simp[ht,asBool]
  ·exact h.elim
 case h_4 t parts hop=>
  rw[zZu]at h
  obtain⟨v,hK,hr⟩:=zXO (zQk.build _ _) h
  exact⟨v,hK,zQQ (by unfold execOp;rw[hop]) hr⟩
 case h_5 x hop=>
  obtain⟨a,hx,hK⟩:=zQP h
  exact⟨_,hK,λw=>by unfold execOp;rw[hop];simp[hx]⟩
 case h_6 op t x y _ hop=>
  have fin:∀v,K v->(∀w,(do eqGuard op t x y (ev ρ x) (ev ρ y);binOp op t (ev ρ x) (ev ρ y):Sem Value).run P w=.ok v w)->∃v,K v/\∀w,(execOp (ev ρ) o).run P w=.ok (.value v) w:=λv hK hr=>
   ⟨v,hK,zQQ (s:=do eqGuard op t x y (ev ρ x) (ev ρ y);binOp op t (ev ρ x) (ev ρ y)) (by unfold execOp;rw[hop]) hr⟩
  split at h
  ·rename_i k a k' b hx hy
   rw[hx,hy]at fin
   split at h
   ·obtain⟨rfl,hb,hK⟩:=h
    exact fin _ hK λw=>by simp[eqGuard,binOp,Op.intDiv,hb]
   ·obtain⟨rfl,hb,hK⟩:=h
    exact fin _ hK λw=>by simp[eqGuard,binOp,Op.intDiv,hb]
   ·obtain⟨hb,hK⟩:=h
    exact fin _ hK λw=>by simp[eqGuard,binOp,Op.shift,Int.not_lt.2 hb]
   ·obtain⟨hb,hK⟩:=h
    exact fin _ hK λw=>by simp[eqGuard,binOp,Op.shift,Int.not_lt.2 hb]
   ·obtain⟨v,hK,hr⟩:=zXO (zQk.intBin _ _ _ _ _ _ _ _) h
    exact fin _ hK hr
  ·rename_i a b hx hy
   rw[hx,hy]at fin
   split at h
   ·obtain⟨hs,hK⟩:=h
    refine fin _ hK λw=>?_
    have:¬(((a.size+b.size:Nat):Int) > IntKind.i64.max):=by
     have e:IntKind.i64.max=9223372036854775807:=by decide
     rw[e];omega
    simp only[eqGuard,binOp,Op.stringOp]
    rw[if_neg this]
    simp
   ·obtain⟨v,hK,hr⟩:=zXO (zQk.strBin _ _ _ _ _ _) h
    exact fin _ hK hr
  ·obtain⟨v,hr,hK⟩:=Shp.ex_elim h
   exact fin _ hK hr
 case h_7 op _ x hop=>
  split at h
  ·rename_i b hx
   obtain⟨v,hK,hr⟩:=zXO (zQk.unary _ _ (by simp)) h
   exact⟨v,hK,zQQ (s:=Op.unary op (ev ρ x)) (by unfold execOp;rw[hop]) (by rw[hx];exact hr)⟩
  ·rename_i k n hx
   obtain⟨v,hK,hr⟩:=zXO (zQk.unary _ _ (by simp)) h
   exact⟨v,hK,zQQ (s:=Op.unary op (ev ρ x)) (by unfold execOp;rw[hop]) (by rw[hx];exact hr)⟩
  ·exact h.elim
 case h_8 src dst x hop=>
  split at h
  ·rename_i k n k1 k' hx hs hd
   refine⟨_,h,zQQ (s:=convert src dst (ev ρ x)) (by unfold execOp;rw[hop]) λw=>?_⟩
   simp[convert,zQg hs,zQg hd,hx,Conv.intToInt]
  ·exact h.elim
 case h_9 fn first cap hop=>
  rw[zZu,zZu]at h
  exact⟨_,h,zQQ (s:=Instr.makeFunc fn (first.map (ev ρ)) (cap.map (ev ρ))) (by unfold execOp;rw[hop]) λw=>rfl⟩
 case h_10 t x lo hi hop=>
  have h':zKZ P t (ev ρ x) (lo.map (ev ρ)) (hi.map (ev ρ)) K:=by cases lo <;> cases hi <;> exact h
  obtain⟨v,_,hK,hr⟩:=zWe (w:=default) (yJF h')
  exact⟨v,hK,zQQ (s:=Instr.sliceAt t (ev ρ x) (lo.map (ev ρ)) (hi.map (ev ρ)) none) (by unfold execOp;rw[hop];rfl) hr⟩
 case h_11 s x f hop=>
  obtain⟨a,hx,h⟩:=zQP h
  obtain⟨b,hK,hr⟩:=zWj h
  exact⟨_,hK,zQQ (s:=Instr.fieldAt s (ev ρ x) f) (by unfold execOp;rw[hop]) (by rw[hx];exact hr)⟩
 case h_12 t x f hop=>
  split at h
  ·rename_i cs hx
   obtain⟨v,hK,hr⟩:=zXO (zQk.field _ _ _) h
   exact⟨v,hK,zQQ (s:=Instr.field t (ev ρ x) f) (by unfold execOp;rw[hop]) (by rw[hx];exact hr)⟩
  ·exact h.elim
 case h_13 t x i hop=>
  obtain⟨a,hr,hK,hrw⟩:=zKj (K:=λa=>K (.pointer (some a))/\∀w,(Instr.indexAt t (ev ρ x) (ev ρ i)).run P w=.ok (.pointer (some a)) w) (w:=default) (yXf h)
  exact⟨_,hK,zQQ (s:=Instr.indexAt t (ev ρ x) (ev ρ i)) (by unfold execOp;rw[hop]) hrw⟩
 case h_14 t x i hop=>
  split at h
  ·rename_i s hx
   obtain⟨k,n,hi,h⟩:=zJp h
   split at h
   ·rename_i hu
    obtain⟨b,h0,hb,hK⟩:=h
    refine⟨_,hK,zQQ (s:=Instr.index t (ev ρ x) (ev ρ i)) (by unfold execOp;rw[hop]) λw=>?_⟩
    simp[hx,hi,Instr.index,asIntOf,zQg hu,h0,hb]
   ·exact h.elim
  ·split at h
   ·obtain⟨v,hr,hK⟩:=Shp.ex_elim h
    exact⟨_,hK,zQQ (s:=Instr.index t (ev ρ x) (ev ρ i)) (by unfold execOp;rw[hop]) hr⟩
   ·exact h.elim
 case h_15 t ix hop=>
  obtain⟨v,hK,hr⟩:=zXO (zQk.extract _ _) h
  have hK:=Shp.dec_elim hK
  exact⟨v,hK,zQQ (s:=Instr.extract (ev ρ t) ix) (by unfold execOp;rw[hop]) hr⟩
 case h_16 c hop=>
  split at h
  ·rename_i hc
   have key:∀x,c.args.toList.map (ev ρ)=[x]->zQk P (Builtin.len_ c.argTypes o.type #[x])->yKA P (Builtin.len_ c.argTypes o.type #[x]) K->∃v,K v/\∀w,(execOp (ev ρ) o).run P w=.ok (.value v) w:=λx hx hst h=>by
    obtain⟨v,hK,hr⟩:=zXO hst h
    have e:c.args.map (ev ρ)=#[x]:=by apply Array.ext';simpa using hx
    refine⟨v,hK,zQQ (s:=Builtin.len_ c.argTypes o.type #[x]) ?_ hr⟩
    unfold execOp
    simp only[hop]
    unfold resolve
    simp only[hc,e]
    rfl
   split at h
   ·rename_i s hx;exact key _ hx (zQk.len _ _ _ (by simp) (by simp)) h
   ·rename_i a n m hx;exact key _ hx (zQk.len _ _ _ (by simp) (by simp)) h
   ·exact h.elim
  ·exact h.elim
 case h_17=>exact h.elim
end Go.Sh
