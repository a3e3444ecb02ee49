import Derived.Test.YtjbfehippchniaaGreatDoorShFour
/- Operations that touch no memory ('pureOp'), and those that only read it ('lopE'), and their soundness in every world that is asked of. For every program. -/
namespace Go.Sh
variable {P : Program}
/-- A run that neither looks at the world nor changes it. -/
def Still(P:Program){α:Type}(s:Sem α):Prop:=∀w1 w2 v w',s.run P w1=.ok v w' → w'=w1 ∧ s.run P w2=.ok v w2
def Never(P:Program){α:Type}(s:Sem α):Prop:=∀w v w',s.run P w ≠ .ok v w'
theorem Never.still{α:Type}{s:Sem α}(h:Never P s):Still P s:=λw1 _ v w' e=>absurd e (h w1 v w')
theorem Still.pure{α:Type}(a:α):Still P (Pure.pure a:Sem α):=λw1 w2 v w' e=>by
  simp only[Sem.run_pure,Result.ok.injEq]at e ⊢;exact⟨e.2.symm,e.1,trivial⟩
theorem Still.bind {α β:Type} {s:Sem α} {f:α → Sem β} (h:Still P s) (hf:∀a,Still P (f a)):Still P (s >>= f):=λw1 w2 v w' e=>by
  rw[Sem.run_bind]at e ⊢
  cases hr:s.run P w1 with
  | halt x y=>rw[hr]at e;simp[Result.andThen]at e
  | ok a wa=>
    rw[hr]at e
    simp only[Result.andThen_ok]at e
    obtain⟨rfl,h2⟩:=h w1 w2 a wa hr
    rw[h2]
    simp only[Result.andThen_ok]
    exact hf a _ w2 v w' e
theorem Never.halt{α:Type}(h:Halt):Never P (.halt h:Sem α):=λ_ _ _ e=>by simp at e
theorem Never.bind {α β:Type} {s:Sem α} {f:α → Sem β} (h:∀a,Never P (f a)):Never P (s >>= f):=λw v w' e=>by
  rw[Sem.run_bind]at e
  cases hr:s.run P w with
  | halt x y=>rw[hr]at e;simp[Result.andThen]at e
  | ok a wa=>rw[hr]at e;exact h a _ _ _ e
theorem Never.stuck{α:Type}(m:String):Never P (stuck m:Sem α):=Never.halt _
theorem Never.unsup{α:Type}(m:Unsupported):Never P (unsupported m:Sem α):=Never.halt _
theorem Never.goPanic{α:Type}(m:Value):Never P (goPanic m:Sem α):=Never.halt _
theorem Never.runtimePanic{α:Type}(e:RuntimeError):Never P (runtimePanic e:Sem α):=by
  unfold Go.runtimePanic
  refine Never.bind λp=>?_
  cases e <;> simp only <;> first
    | exact Never.goPanic _
    | (refine Never.bind λ_=>?_;first|exact Never.goPanic _|(refine Never.bind λ_=>?_;exact Never.goPanic _))
theorem Still.underlying(t:TypeId):Still P (underlying t):=by
  unfold Go.underlying
  refine Still.bind (λw1 w2 v w' e=>?_) λp=>?_
  · simp only[run_program,Result.ok.injEq]at e ⊢;exact⟨e.2.symm,e.1,trivial⟩
  · split
    · exact Still.pure _
    · exact(Never.stuck _).still
theorem Still.typeInfo(t:TypeId):Still P (typeInfo t):=by
  unfold Go.typeInfo
  refine Still.bind (λw1 w2 v w' e=>?_) λp=>?_
  · simp only[run_program,Result.ok.injEq]at e ⊢;exact⟨e.2.symm,e.1,trivial⟩
  · split
    · exact Still.pure _
    · exact(Never.stuck _).still
theorem Still.sizeOf(t:TypeId):Still P (sizeOf t):=Still.bind (Still.typeInfo t) λ_=>Still.pure _
theorem Still.isAgg(t:TypeId):Still P (isAgg t):=by
  unfold Go.isAgg
  refine Still.bind (Still.underlying t) λd=>?_
  split <;> exact Still.pure _
theorem Still.zeroValue(t:TypeId):Still P (zeroValue t):=by
  unfold Go.zeroValue
  refine Still.bind (Still.typeInfo t) λd=>?_
  split
  · exact Still.pure _
  · exact(Never.unsup _).still
theorem Still.part(t:TypeId)(cs:Array Value)(off:Nat):Still P (part t cs off):=by
  unfold Go.part
  refine Still.bind (Still.isAgg t) λb=>?_
  split
  · exact Still.bind (Still.sizeOf t) λ_=>Still.pure _
  · split
    · exact Still.pure _
    · exact(Never.stuck _).still
theorem Still.field(t:TypeId)(cs:Array Value)(f:Nat):Still P (Instr.field t (.agg cs) f):=by
  unfold Instr.field
  refine Still.bind (Still.underlying t) λd=>?_
  split
  · split
    · exact Still.bind (Still.pure _) λ_=>Still.part _ _ _
    · exact(Never.stuck _).still
  · exact(Never.stuck _).still
theorem Still.extract(v:Value)(i:Nat):Still P (Instr.extract v i):=by
  unfold Instr.extract
  split
  · split
    · exact Still.pure _
    · exact(Never.stuck _).still
  · exact(Never.stuck _).still
theorem Still.mapM {α β:Type} (f:α → Sem β) (hf:∀a,Still P (f a)):∀l:List α,Still P (l.mapM f)
  | []=>by simpa using Still.pure _
  | a :: l=>by
    rw[List.mapM_cons]
    exact Still.bind (hf a) λ_=>Still.bind (Still.mapM f hf l) λ_=>Still.pure _
theorem Still.build (t:TypeId) (ps:Array (Nat × Value)):Still P (Instr.build t ps):=by
  unfold Instr.build
  refine Still.bind (Still.zeroValue t) λz=>?_
  refine Still.bind (Still.underlying t) λd=>?_
  split
  · refine Still.bind ?_ λpl=>?_
    · rw[Array.mapM_eq_mapM_toList]
      exact Still.bind (Still.mapM _ (λ_=>Still.bind (Still.sizeOf _) λ_=>Still.pure _) _) λ_=>Still.pure _
    · split
      · exact Still.pure _
      · exact(Never.stuck _).still
  · refine Still.bind (Still.sizeOf _) λs=>?_
    split
    · exact Still.pure _
    · exact(Never.stuck _).still
  · exact(Never.stuck _).still
theorem Still.intBin(op:BinOp)(t:TypeId)(x y:Operand)(k k':IntKind)(a b:Int):Still P (do eqGuard op t x y (.int k a) (.int k' b);binOp op t (.int k a) (.int k' b):Sem Value):=by
  refine Still.bind ?_ λ_=>?_
  · unfold eqGuard
    cases op <;> exact Still.pure _
  · have hsh:Still P (Op.shift op k a k' b):=by
      unfold Op.shift
      split
      · exact(Never.runtimePanic _).still
      · cases op <;> first|exact Still.pure _|exact(Never.stuck _).still
    have har:∀o,Still P (Op.intArith o k a b):=λo=>by
      unfold Op.intArith;cases o <;> first|exact Still.pure _|exact(Never.stuck _).still
    have hdv:∀o,Still P (Op.intDiv o k a b):=λo=>by
      unfold Op.intDiv
      split
      · exact(Never.runtimePanic _).still
      · cases o <;> first|exact Still.pure _|exact(Never.stuck _).still
    have hbt:∀o,Still P (Op.intBits o k a b):=λo=>by
      unfold Op.intBits;cases o <;> first|exact Still.pure _|exact(Never.stuck _).still
    have hcm:∀o,Still P (Op.intCmp o a b):=λo=>by
      unfold Op.intCmp;cases o <;> first|exact Still.pure _|exact(Never.stuck _).still
    by_cases hk:k=k'
    · subst hk
      cases op <;> simp only[binOp,ne_eq,not_true_eq_false,if_false] <;> first|exact har _|exact hdv _|exact hbt _|exact hcm _|exact hsh
    · cases op <;> simp only[binOp,ne_eq,hk,not_false_eq_true,if_true] <;> first|exact(Never.stuck _).still|exact hsh
theorem Still.strBin(op:BinOp)(t:TypeId)(x y:Operand)(a b:ByteArray):Still P (do eqGuard op t x y (.string a) (.string b);binOp op t (.string a) (.string b):Sem Value):=by
  refine Still.bind ?_ λ_=>?_
  · unfold eqGuard
    cases op <;> exact Still.pure _
  · have h:Still P (Op.stringOp op a b):=by
      unfold Op.stringOp
      cases op <;> simp only <;> first|exact Still.pure _|exact(Never.stuck _).still|(split;exact(Never.unsup _).still;exact Still.pure _)
    cases op <;> exact h
theorem Still.unary(op:UnOp)(v:Value)(hv:∀p,v ≠ .pointer p):Still P (Op.unary op v):=by
  have har:∀(o:BinOp) (k:IntKind) (a b:Int),Still P (Op.intArith o k a b):=λo k a b=>by
    unfold Op.intArith;cases o <;> first|exact Still.pure _|exact(Never.stuck _).still
  have hbt:∀(o:BinOp) (k:IntKind) (a b:Int),Still P (Op.intBits o k a b):=λo k a b=>by
    unfold Op.intBits;cases o <;> first|exact Still.pure _|exact(Never.stuck _).still
  cases op <;> cases v <;> simp only[Op.unary] <;> first|exact har _ _ _ _|exact hbt _ _ _ _|exact Still.pure _|exact(Never.stuck _).still|exact absurd rfl (hv _)
theorem Still.len(at_:Array TypeId)(t:TypeId)(v:Value)(hv:∀m,v ≠ .map m)(hc:∀m,v ≠ .chan m):Still P (Builtin.len_ at_ t #[v]):=by
  unfold Builtin.len_
  split
  · rename_i t' x hx
    refine Still.bind (Still.underlying _) λd=>?_
    split <;> first
      | exact Still.pure _
      | exact(Never.stuck _).still
      | skip
    · refine Still.bind (Still.underlying _) λd=>?_
      split
      · exact Still.pure _
      · exact(Never.stuck _).still
    · simp at hx;exact absurd hx.2 (hv _)
    · simp at hx;exact absurd hx.2 (hc _)
  · exact(Never.stuck _).still
def rawP(P:Program)(s:Sem Value)(K:Value → Prop):Prop:=match s.run P (default:World)with
  | .ok v _=>K v
  | .halt _ _=>False
theorem rawP_elim{s:Sem Value}{K:Value → Prop}(hs:Still P s)(h:rawP P s K):∃v,K v ∧ ∀w,s.run P w=.ok v w:=by
  unfold rawP at h
  split at h
  · rename_i v w' hr
    refine⟨v,h,λw=>?_⟩
    have:=hs _ w _ _ hr
    exact this.2
  · exact h.elim
/-- A value met as one of its shape, the same in every world. -/
def runP(P:Program)(sh:Shp)(s:Sem Value)(K:Value → Prop):Prop:=sh.ex λv=>(∀w,s.run P w=.ok v w) ∧ K v
def fieldAddrE(P:Program)(s:TypeId)(f:Nat)(a:Addr)(K:Addr → Prop):Prop:=
  match P.underlying s with
  | some (.struct fs)=>match fs[f]? with
    | some fd=>match P.info? fd.type with
      | some i=>match Nat.beq i.size 0 with
        | false=>K (a.add fd.offset)
        | true=>False
      | none=>False
    | none=>False
  | _=>False
theorem fieldAddrE_sound{s:TypeId}{f:Nat}{a:Addr}{K:Addr → Prop}(h:fieldAddrE P s f a K):∃b,K b ∧ ∀w,(Instr.fieldAt s (.pointer (some a)) f).run P w=.ok (.pointer (some b)) w:=by
  unfold fieldAddrE at h
  split at h
  case h_2=>exact h.elim
  rename_i fs hu
  split at h
  case h_2=>exact h.elim
  rename_i fd hfd
  split at h
  case h_2=>exact h.elim
  rename_i i hi
  split at h
  case h_2=>exact h.elim
  rename_i hz
  refine⟨_,h,λw=>?_⟩
  have hz':i.size ≠ 0:=by intro e;rw[e]at hz;cases hz
  simp[Instr.fieldAt,run_under hu,hfd,Instr.sureAddr,fieldPlace,sizeOf,run_info hi,hz']
theorem sliceE_all{t:TypeId}{v:Value}{lo hi:Option Value}{K:Value → Prop}(h:sliceE P t v lo hi K) :
    sliceE P t v lo hi λr=>K r ∧ ∀w,(Instr.sliceAt t v lo hi none).run P w=.ok r w:=by
  unfold sliceE at h ⊢
  cases hu:P.underlying t with
  | none=>rw[hu]at h;exact h.elim
  | some d=>
    rw[hu]at h
    cases d <;> first|exact h.elim|skip
    · cases v <;> first|exact h.elim|skip
      rename_i s
      simp only at h ⊢
      obtain⟨hh,⟨h1,h⟩,eh⟩:=optE_elim h
      obtain⟨l,⟨h2,hK⟩,el⟩:=optE_elim h
      have fin:K (.string (s.extract l hh)) ∧ ∀w,(Instr.sliceAt t (.string s) lo hi none).run P w=.ok (.string (s.extract l hh)) w:=⟨hK,λw=>by
        have:=run_sliceBounds (P:=P) (isS:=false) w eh el h1 h2
        simp[Instr.sliceAt,run_under hu,Instr.slice,this]⟩
      rcases eh with⟨rfl,rfl⟩|⟨k,i,rfl,h0,rfl⟩ <;> rcases el with⟨rfl,rfl⟩|⟨k2,i2,rfl,h02,rfl⟩
      · exact⟨h1,h2,fin⟩
      · exact⟨h1,h02,h2,fin⟩
      · exact⟨h0,h1,h2,fin⟩
      · exact⟨h0,h1,h02,h2,fin⟩
    · rename_i e
      cases v <;> first|exact h.elim|skip
      rename_i a len cap
      simp only at h ⊢
      cases hk:knownB P e with
      | false=>rw[hk]at h;exact h.elim
      | true=>
        rw[hk]at h
        simp only at h ⊢
        obtain⟨hh,⟨h1,h⟩,eh⟩:=optE_elim h
        obtain⟨l,⟨h2,hK⟩,el⟩:=optE_elim h
        have fin:K (.slice (if cap=l then a else a.map (·.add (l * sizeB P e))) (hh - l) (cap - l)) ∧ ∀w,(Instr.sliceAt t (.slice a len cap) lo hi none).run P w=.ok (.slice (if cap=l then a else a.map (·.add (l * sizeB P e))) (hh - l) (cap - l)) w:=⟨hK,λw=>by
          have:=run_sliceBounds (P:=P) (isS:=true) w eh el h1 h2
          simp[Instr.sliceAt,run_under hu,Instr.slice,this,run_sizeOf' (knownB_spec hk).2]⟩
        rcases eh with⟨rfl,rfl⟩|⟨k,i,rfl,h0,rfl⟩ <;> rcases el with⟨rfl,rfl⟩|⟨k2,i2,rfl,h02,rfl⟩
        · exact⟨h1,h2,fin⟩
        · exact⟨h1,h02,h2,fin⟩
        · exact⟨h0,h1,h2,fin⟩
        · exact⟨h0,h1,h02,h2,fin⟩
    · rename_i n e
      simp only at h ⊢
      cases hk:knownB P e with
      | false=>rw[hk]at h;exact h.elim
      | true=>
        rw[hk]at h
        simp only at h ⊢
        obtain⟨a,ea,h9⟩:=addrE_elim h
        subst ea
        obtain⟨hh,⟨h1,h⟩,eh⟩:=optE_elim h9
        obtain⟨l,⟨h2,hK⟩,el⟩:=optE_elim h
        have fin:K (.slice (some (if n=l then a else a.add (l * sizeB P e))) (hh - l) (n - l)) ∧ ∀w,(Instr.sliceAt t (.pointer (some a)) lo hi none).run P w=.ok (.slice (some (if n=l then a else a.add (l * sizeB P e))) (hh - l) (n - l)) w:=⟨hK,λw=>by
          have:=run_sliceBounds (P:=P) (isS:=false) w eh el h1 h2
          simp[Instr.sliceAt,run_under hu,Instr.sureAddr,this,run_sizeOf' (knownB_spec hk).2]⟩
        rcases eh with⟨rfl,rfl⟩|⟨k,i,rfl,h0,rfl⟩ <;> rcases el with⟨rfl,rfl⟩|⟨k2,i2,rfl,h02,rfl⟩
        · exact⟨h1,h2,fin⟩
        · exact⟨h1,h02,h2,fin⟩
        · exact⟨h0,h1,h2,fin⟩
        · exact⟨h0,h1,h02,h2,fin⟩
theorem ixAddrE_all{t:TypeId}{v i:Value}{K:Addr → Prop}(h:ixAddrE P t v i K) :
    ixAddrE P t v i λa=>K a ∧ ∀w,(Instr.indexAt t v i).run P w=.ok (.pointer (some a)) w:=by
  unfold ixAddrE at h ⊢
  obtain⟨k,n,rfl,h⟩:=intE_elim h
  simp only[intE]
  split at h
  · rename_i e hu
    split at h
    case h_2=>exact h.elim
    rename_i b len cap hk _
    obtain⟨a,rfl,h0,h1,hK⟩:=h
    refine⟨a,rfl,h0,h1,hK,λw=>?_⟩
    have hc:0 ≤ n ∧ n<(len:Int):=⟨h0,h1⟩
    simp[Instr.indexAt,asIntOf,run_under hu,hc,run_sizeOf' (knownB_spec hk).2]
  · rename_i len e hu
    split at h
    case h_2=>exact h.elim
    rename_i hk
    obtain⟨a,rfl,h0,h1,hK⟩:=addrE_elim h
    refine⟨h0,h1,hK,λw=>?_⟩
    have hc:0 ≤ n ∧ n<(len:Int):=⟨h0,h1⟩
    simp[Instr.indexAt,asIntOf,run_under hu,hc,run_sizeOf' (knownB_spec hk).2,Instr.sureAddr]
  · exact h.elim
def pureOp(P:Program)(o:Oper)(ρ:Env)(K:Value → Prop):Prop:=
  match o.op with
  | .move x=>K (ev ρ x)
  | .assign x=>K (ev ρ x)
  | .pick c a b=>boolE (ev ρ c) λt=>Br t (K (ev ρ a)) (K (ev ρ b))
  | .build t parts=>rawP P (Instr.build t (parts.toList.map λ(i,x)=>(i,ev ρ x)).toArray) K
  | .nilCheck x=>addrE (ev ρ x) λa=>K (.pointer (some a))
  | .binOp op t x y _=>match ev ρ x,ev ρ y with
    | .int k a,.int k' b=>match op with
      | .quo=>k=k' ∧ b ≠ 0 ∧ K (.int k (k.wrap (a.tdiv b)))
      | .rem=>k=k' ∧ b ≠ 0 ∧ K (.int k (a.tmod b))
      | .shl=>0 ≤ b ∧ K (.int k (k.wrap (a * 2 ^ (min b.toNat k.bits))))
      | .shr=>0 ≤ b ∧ K (.int k (a.fdiv (2 ^ (min b.toNat k.bits))))
      | op=>rawP P (do eqGuard op t x y (.int k a) (.int k' b);binOp op t (.int k a) (.int k' b)) K
    | .string a,.string b=>match op with
      | .add=>((a.size+b.size:Nat):Int) ≤ 9223372036854775807 ∧ K (.string (a ++ b))
      | op=>rawP P (do eqGuard op t x y (.string a) (.string b);binOp op t (.string a) (.string b)) K
    | vx,vy=>runP P (.one .bool) (do eqGuard op t x y vx vy;binOp op t vx vy) K
  | .unOp op _ x=>match ev ρ x with
    | .bool b=>rawP P (Op.unary op (.bool b)) K
    | .int k n=>rawP P (Op.unary op (.int k n)) K
    | _=>False
  | .convert src dst x=>match ev ρ x,P.underlying src,P.underlying dst with
    | .int _ n,some (.int _),some (.int k')=>K (.int k' (k'.wrap n))
    | _,_,_=>False
  | .makeFunc fn first cap=>K (.func fn (first.toList.map (ev ρ)).toArray (cap.toList.map (ev ρ)).toArray)
  | .slice t x lo hi none=>sliceE P t (ev ρ x) (match lo with|some y=>some (ev ρ y)|none=>none) (match hi with|some y=>some (ev ρ y)|none=>none) K
  | .fieldAddr s x f=>addrE (ev ρ x) λa=>fieldAddrE P s f a λb=>K (.pointer (some b))
  | .field t x f=>match ev ρ x with
    | .agg cs=>rawP P (Instr.field t (.agg cs) f) K
    | _=>False
  | .indexAddr t x i=>ixAddrE P t (ev ρ x) (ev ρ i) λa=>K (.pointer (some a))
  | .index t x i=>match ev ρ x with
    | .string s=>intE (ev ρ i) λ_ n=>match P.underlying t with
      | some .string=>∃b:UInt8,0 ≤ n ∧ s[n.toNat]?=some b ∧ K (.int .u8 b.toNat)
      | _=>False
    | v=>match elemOfT P t with
      | some e=>runP P (shOf P e) (Instr.index t v (ev ρ i)) K
      | none=>False
  | .extract t ix=>rawP P (Instr.extract (ev ρ t) ix) λv=>(shOf P o.type).dec v K
  | .call c=>match c.callee with
    | .builtin .len=>match c.args.toList.map (ev ρ)with
      | [.string s]=>rawP P (Builtin.len_ c.argTypes o.type #[.string s]) K
      | [.slice a n m]=>rawP P (Builtin.len_ c.argTypes o.type #[.slice a n m]) K
      | _=>False
    | _=>False
  | _=>False
theorem execOp_of {o:Oper} {ρ:Operand → Value} {s:Sem Value} {v:Value} (e:execOp ρ o=(do pure (.value (←s)))) (h:∀w,s.run P w=.ok v w):∀w,(execOp ρ o).run P w=.ok (.value v) w:=λw=>by
  rw[e];simp[h w]
theorem pureOp_sound{o:Oper}{ρ:Env}{K:Value → Prop}(h:pureOp P o ρ K):∃v,K v ∧ ∀w,(execOp (ev ρ) o).run P w=.ok (.value v) w:=by
  unfold pureOp at h
  split at h
  case h_1 x hop=>exact⟨_,h,λw=>by unfold execOp;rw[hop];rfl⟩
  case h_2 x hop=>exact⟨_,h,λw=>by unfold execOp;rw[hop];rfl⟩
  case h_3 c a b hop=>
    unfold boolE at h
    split at h
    · rename_i t ht
      refine⟨if t then ev ρ a else ev ρ b,by cases t <;> exact h,λw=>?_⟩
      unfold execOp;rw[hop];simp[ht,asBool]
    · exact h.elim
  case h_4 t parts hop=>
    rw[map_list]at h
    obtain⟨v,hK,hr⟩:=rawP_elim (Still.build _ _) h
    exact⟨v,hK,execOp_of (by unfold execOp;rw[hop]) hr⟩
  case h_5 x hop=>
    obtain⟨a,hx,hK⟩:=addrE_elim h
    exact⟨_,hK,λw=>by unfold execOp;rw[hop];simp[hx]⟩
  case h_6 op t x y _ hop=>
    have fin:∀v,K v → (∀w,(do eqGuard op t x y (ev ρ x) (ev ρ y);binOp op t (ev ρ x) (ev ρ y):Sem Value).run P w=.ok v w) → ∃v,K v ∧ ∀w,(execOp (ev ρ) o).run P w=.ok (.value v) w:=λv hK hr=>
      ⟨v,hK,execOp_of (s:=do eqGuard op t x y (ev ρ x) (ev ρ y);binOp op t (ev ρ x) (ev ρ y)) (by unfold execOp;rw[hop]) hr⟩
    split at h
    · rename_i k a k' b hx hy
      rw[hx,hy]at fin
      split at h
      · obtain⟨rfl,hb,hK⟩:=h
        exact fin _ hK λw=>by simp[eqGuard,binOp,Op.intDiv,hb]
      · obtain⟨rfl,hb,hK⟩:=h
        exact fin _ hK λw=>by simp[eqGuard,binOp,Op.intDiv,hb]
      · obtain⟨hb,hK⟩:=h
        exact fin _ hK λw=>by simp[eqGuard,binOp,Op.shift,Int.not_lt.2 hb]
      · obtain⟨hb,hK⟩:=h
        exact fin _ hK λw=>by simp[eqGuard,binOp,Op.shift,Int.not_lt.2 hb]
      · obtain⟨v,hK,hr⟩:=rawP_elim (Still.intBin _ _ _ _ _ _ _ _) h
        exact fin _ hK hr
    · rename_i a b hx hy
      rw[hx,hy]at fin
      split at h
      · obtain⟨hs,hK⟩:=h
        refine fin _ hK λw=>?_
        have:¬(((a.size+b.size:Nat):Int) > IntKind.i64.max):=by
          have e:IntKind.i64.max=9223372036854775807:=by decide
          rw[e];omega
        simp only[eqGuard,binOp,Op.stringOp]
        rw[if_neg this]
        simp
      · obtain⟨v,hK,hr⟩:=rawP_elim (Still.strBin _ _ _ _ _ _) h
        exact fin _ hK hr
    · obtain⟨v,hr,hK⟩:=Shp.ex_elim h
      exact fin _ hK hr
  case h_7 op _ x hop=>
    split at h
    · rename_i b hx
      obtain⟨v,hK,hr⟩:=rawP_elim (Still.unary _ _ (by simp)) h
      exact⟨v,hK,execOp_of (s:=Op.unary op (ev ρ x)) (by unfold execOp;rw[hop]) (by rw[hx];exact hr)⟩
    · rename_i k n hx
      obtain⟨v,hK,hr⟩:=rawP_elim (Still.unary _ _ (by simp)) h
      exact⟨v,hK,execOp_of (s:=Op.unary op (ev ρ x)) (by unfold execOp;rw[hop]) (by rw[hx];exact hr)⟩
    · exact h.elim
  case h_8 src dst x hop=>
    split at h
    · rename_i k n k1 k' hx hs hd
      refine⟨_,h,execOp_of (s:=convert src dst (ev ρ x)) (by unfold execOp;rw[hop]) λw=>?_⟩
      simp[convert,run_under hs,run_under hd,hx,Conv.intToInt]
    · exact h.elim
  case h_9 fn first cap hop=>
    rw[map_list,map_list]at h
    exact⟨_,h,execOp_of (s:=Instr.makeFunc fn (first.map (ev ρ)) (cap.map (ev ρ))) (by unfold execOp;rw[hop]) λw=>rfl⟩
  case h_10 t x lo hi hop=>
    have h':sliceE P t (ev ρ x) (lo.map (ev ρ)) (hi.map (ev ρ)) K:=by cases lo <;> cases hi <;> exact h
    obtain⟨v,_,hK,hr⟩:=sliceE_sound (w:=default) (sliceE_all h')
    exact⟨v,hK,execOp_of (s:=Instr.sliceAt t (ev ρ x) (lo.map (ev ρ)) (hi.map (ev ρ)) none) (by unfold execOp;rw[hop];rfl) hr⟩
  case h_11 s x f hop=>
    obtain⟨a,hx,h⟩:=addrE_elim h
    obtain⟨b,hK,hr⟩:=fieldAddrE_sound h
    exact⟨_,hK,execOp_of (s:=Instr.fieldAt s (ev ρ x) f) (by unfold execOp;rw[hop]) (by rw[hx];exact hr)⟩
  case h_12 t x f hop=>
    split at h
    · rename_i cs hx
      obtain⟨v,hK,hr⟩:=rawP_elim (Still.field _ _ _) h
      exact⟨v,hK,execOp_of (s:=Instr.field t (ev ρ x) f) (by unfold execOp;rw[hop]) (by rw[hx];exact hr)⟩
    · exact h.elim
  case h_13 t x i hop=>
    obtain⟨a,hr,hK,hrw⟩:=ixAddrE_sound (K:=λa=>K (.pointer (some a)) ∧ ∀w,(Instr.indexAt t (ev ρ x) (ev ρ i)).run P w=.ok (.pointer (some a)) w) (w:=default) (ixAddrE_all h)
    exact⟨_,hK,execOp_of (s:=Instr.indexAt t (ev ρ x) (ev ρ i)) (by unfold execOp;rw[hop]) hrw⟩
  case h_14 t x i hop=>
    split at h
    · rename_i s hx
      obtain⟨k,n,hi,h⟩:=intE_elim h
      split at h
      · rename_i hu
        obtain⟨b,h0,hb,hK⟩:=h
        refine⟨_,hK,execOp_of (s:=Instr.index t (ev ρ x) (ev ρ i)) (by unfold execOp;rw[hop]) λw=>?_⟩
        simp[hx,hi,Instr.index,asIntOf,run_under hu,h0,hb]
      · exact h.elim
    · split at h
      · obtain⟨v,hr,hK⟩:=Shp.ex_elim h
        exact⟨_,hK,execOp_of (s:=Instr.index t (ev ρ x) (ev ρ i)) (by unfold execOp;rw[hop]) hr⟩
      · exact h.elim
  case h_15 t ix hop=>
    obtain⟨v,hK,hr⟩:=rawP_elim (Still.extract _ _) h
    have hK:=Shp.dec_elim hK
    exact⟨v,hK,execOp_of (s:=Instr.extract (ev ρ t) ix) (by unfold execOp;rw[hop]) hr⟩
  case h_16 c hop=>
    split at h
    · rename_i hc
      have key:∀x,c.args.toList.map (ev ρ)=[x] → Still P (Builtin.len_ c.argTypes o.type #[x]) → rawP P (Builtin.len_ c.argTypes o.type #[x]) K → ∃v,K v ∧ ∀w,(execOp (ev ρ) o).run P w=.ok (.value v) w:=λx hx hst h=>by
        obtain⟨v,hK,hr⟩:=rawP_elim hst h
        have e:c.args.map (ev ρ)=#[x]:=by apply Array.ext';simpa using hx
        refine⟨v,hK,execOp_of (s:=Builtin.len_ c.argTypes o.type #[x]) ?_ hr⟩
        unfold execOp
        simp only[hop]
        unfold resolve
        simp only[hc,e]
        rfl
      split at h
      · rename_i s hx;exact key _ hx (Still.len _ _ _ (by simp) (by simp)) h
      · rename_i a n m hx;exact key _ hx (Still.len _ _ _ (by simp) (by simp)) h
      · exact h.elim
    · exact h.elim
  case h_17=>exact h.elim
end Go.Sh
