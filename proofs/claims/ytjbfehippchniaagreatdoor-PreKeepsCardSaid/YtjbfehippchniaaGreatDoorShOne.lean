import Derived.WalkKit
import Derived.KernelRfl
import Derived.OrdersHeld
import Derived.Defers
import Derived.Scope
/- A demanding predicate-transformer semantics 'ptE' of the model's code over an environment that is a function, with typed existentials, and its soundness: what 'ptE' gives, the machine does ('Calls'). No condition: it holds for every program. -/
namespace Go.Sh
abbrev Env:=Nat → Value
def upd1(ρ:Env)(d:Nat)(v:Value):Env:=λt=>cond (Nat.beq t d) v (ρ t)
def upd(ρ:Env):Option Nat → Value → Env
  | none,_=>ρ
  | some d,v=>upd1 ρ d v
def ev(ρ:Env):Operand → Value
  | .tmp t=>ρ t
  | .const v=>v
  | .global g=>.pointer (some ⟨g,0,none⟩)
  | .func f=>.func (.func f) #[] #[]
def envOf(a:Act):Env:=λt=>a.tmps.getD t undef
theorem ev_envOf(a:Act):ev (envOf a)=a.eval:=by funext x;cases x <;> rfl
theorem envOf_put{a:Act}{d:Option Nat}{v:Value}(h:∀t,d=some t → t<a.tmps.size):envOf (a.put d v)=upd (envOf a) d v:=by
  cases d with
  | none=>rfl
  | some d=>
    have hd:=h d rfl
    funext t
    simp only[envOf,Act.put,upd,upd1]
    by_cases e:t=d
    · subst e;simp[hd]
    · have:Nat.beq t d=false:=by cases h1:Nat.beq t d;rfl;exact absurd (Nat.eq_of_beq_eq_true h1) e
      rw[this]
      simp[Array.getElem?_setIfInBounds_ne (Ne.symm e)]
structure SV where
  a:Option Addr
  len:Nat
  cap:Nat
@[reducible] def SV.v(s:SV):Value:=.slice s.a s.len s.cap
inductive Ty where
  | int (k:IntKind)|bool|str|ptr|slice|map|any
def Ty.ex:Ty → (Value → Prop) → Prop
  | .int k,K=>∃n:Int,K (.int k n)
  | .bool,K=>∃b:Bool,K (.bool b)
  | .str,K=>∃s:ByteArray,K (.string s)
  | .ptr,K=>∃p:Option Addr,K (.pointer p)
  | .slice,K=>∃s:SV,K (.slice s.a s.len s.cap)
  | .map,K=>∃m:Option Nat,K (.map m)
  | .any,K=>∃v:Value,K v
theorem Ty.ex_elim{t:Ty}{K:Value → Prop}(h:t.ex K):∃v,K v:=by
  cases t <;> exact let ⟨x,hx⟩:=h;⟨_,hx⟩
def exL:List Ty → (List Value → Prop) → Prop
  | [],K=>K []
  | t :: ts,K=>t.ex λv=>exL ts λvs=>K (v :: vs)
theorem exL_elim:∀{ts:List Ty} {K:List Value → Prop},exL ts K → ∃vs,K vs
  | [],_,h=>⟨[],h⟩
  | _ :: _,_,h=>let ⟨v,h1⟩:=Ty.ex_elim h;let ⟨vs,h2⟩:=exL_elim h1;⟨v :: vs,h2⟩
inductive Shp where
  | one (t:Ty)
  | agg (ts:List Ty)
  | row (n:Nat)
def Shp.ex:Shp → (Value → Prop) → Prop
  | .one t,K=>t.ex K
  | .agg ts,K=>exL ts λvs=>K (.agg vs.toArray)
  | .row n,K=>∃cs:Array Value,cs.size=n ∧ K (.agg cs)
theorem Shp.ex_elim{s:Shp}{K:Value → Prop}(h:s.ex K):∃v,K v:=by
  cases s with
  | one t=>exact Ty.ex_elim h
  | agg ts=>exact let ⟨_,h⟩:=exL_elim h;⟨_,h⟩
  | row n=>exact let ⟨_,_,h⟩:=h;⟨_,h⟩
def exShL:List Shp → (List Value → Prop) → Prop
  | [],K=>K []
  | t :: ts,K=>t.ex λv=>exShL ts λvs=>K (v :: vs)
theorem exShL_elim:∀{ts:List Shp} {K:List Value → Prop},exShL ts K → ∃vs,K vs
  | [],_,h=>⟨[],h⟩
  | _ :: _,_,h=>let ⟨v,h1⟩:=Shp.ex_elim h;let ⟨vs,h2⟩:=exShL_elim h1;⟨v :: vs,h2⟩
def aggB(P:Program)(t:TypeId):Bool:=match P.underlying t with
  | some (.struct _)|some (.array _ _)=>true
  | _=>false
def cellTys(P:Program):Nat → TypeId → List Ty
  | 0,_=>[]
  | n+1,t=>match P.underlying t with
    | some .bool=>[.bool]
    | some (.int k)=>[.int k]
    | some .string=>[.str]
    | some (.pointer _)=>[.ptr]
    | some (.slice _)=>[.slice]
    | some (.map _ _)=>[.map]
    | some (.struct fs)=>fs.toList.flatMap λf=>cellTys P n f.type
    | some (.array k e)=>(List.replicate k (cellTys P n e)).flatten
    | _=>[.any]
def sizeB(P:Program)(t:TypeId):Nat:=match P.info? t with
  | some i=>i.size
  | none=>0
/-- The shape of a value of a type: a cell, a short aggregate written out, a long one as a row. -/
def shOf(P:Program)(t:TypeId):Shp:=
  match aggB P t with
  | true=>match Nat.ble (sizeB P t) 24 with
    | true=>.agg (cellTys P 12 t)
    | false=>.row (sizeB P t)
  | false=>match cellTys P 12 t with
    | [c]=>.one c
    | _=>.one .any
/-- The shape of what a call hands back: a tuple's parts, or one value. -/
def resEx(P:Program)(t:TypeId)(K:Value → Prop):Prop:=
  match P.underlying t with
  | some (.tuple ts)=>exShL (ts.toList.map (shOf P)) λvs=>K (.tuple vs.toArray)
  | _=>(shOf P t).ex K
theorem resEx_elim{P:Program}{t:TypeId}{K:Value → Prop}(h:resEx P t K):∃v,K v:=by
  unfold resEx at h
  split at h
  · exact let ⟨_,h⟩:=exShL_elim h;⟨_,h⟩
  · exact Shp.ex_elim h
def dInt(k:IntKind)(v:Value)(K:Int → Prop):Prop:=match v with
  | .int k' n=>match decide (k=k')with
    | true=>K n
    | false=>False
  | _=>False
def dBl(v:Value)(K:Bool → Prop):Prop:=match v with
  | .bool b=>K b
  | _=>False
def dStr(v:Value)(K:ByteArray → Prop):Prop:=match v with
  | .string s=>K s
  | _=>False
def dPtr(v:Value)(K:Option Addr → Prop):Prop:=match v with
  | .pointer p=>K p
  | _=>False
def dSl(v:Value)(K:SV → Prop):Prop:=match v with
  | .slice a l c=>K ⟨a,l,c⟩
  | _=>False
def dMap(v:Value)(K:Option Nat → Prop):Prop:=match v with
  | .map m=>K m
  | _=>False
def dRow(v:Value)(K:Array Value → Prop):Prop:=match v with
  | .agg cs=>K cs
  | _=>False
def dAgg(v:Value)(K:List Value → Prop):Prop:=match v with
  | .agg cs=>K cs.toList
  | _=>False
def dHd(l:List Value)(K:Value → List Value → Prop):Prop:=match l with
  | v :: r=>K v r
  | []=>False
def dNil(l:List Value)(K:Prop):Prop:=match l with
  | []=>K
  | _ :: _=>False
/-- A value taken as one of its shape. -/
def Ty.dec(t:Ty)(v:Value)(K:Value → Prop):Prop:=match t with
  | .int k=>dInt k v λn=>K (.int k n)
  | .bool=>dBl v λb=>K (.bool b)
  | .str=>dStr v λs=>K (.string s)
  | .ptr=>dPtr v λp=>K (.pointer p)
  | .slice=>dSl v λs=>K (.slice s.a s.len s.cap)
  | .map=>dMap v λm=>K (.map m)
  | .any=>K v
def decL:List Ty → List Value → (List Value → Prop) → Prop
  | [],l,K=>dNil l (K [])
  | t :: ts,l,K=>dHd l λv l=>t.dec v λv=>decL ts l λvs=>K (v :: vs)
def Shp.dec:Shp → Value → (Value → Prop) → Prop
  | .one t,v,K=>t.dec v K
  | .agg ts,v,K=>dAgg v λl=>decL ts l λvs=>K (.agg vs.toArray)
  | .row _,v,K=>dRow v λcs=>K (.agg cs)
def Br(b:Bool)(X Y:Prop):Prop:=match b with
  | true=>X
  | false=>Y
theorem Br.of{b:Bool}{X Y:Prop}(h1:b=true → X)(h2:b=false → Y):Br b X Y:=by cases b;exact h2 rfl;exact h1 rfl
theorem Br.t{b:Bool}{X Y:Prop}(h:b=true)(h1:X):Br b X Y:=by subst h;exact h1
theorem Br.f{b:Bool}{X Y:Prop}(h:b=false)(h1:Y):Br b X Y:=by subst h;exact h1
def boolE(v:Value)(K:Bool → Prop):Prop:=match v with
  | .bool b=>K b
  | _=>False
def ptrE(p:Option Addr)(K:Addr → Prop):Prop:=match p with
  | some a=>K a
  | none=>False
def addrE(v:Value)(K:Addr → Prop):Prop:=match v with
  | .pointer p=>ptrE p K
  | _=>False
def fnE(v:Value)(K:FuncId → Array Value → Array Value → Prop):Prop:=match v with
  | .func (.func f) first cap=>K f first cap
  | _=>False
def rawE(P:Program)(s:Sem Value)(w:World)(K:Value → World → Prop):Prop:=match s.run P w with
  | .ok v w'=>K v w'
  | .halt _ _=>False
/-- A run whose value is met as one of its shape. -/
def runE(P:Program)(sh:Shp)(s:Sem Value)(w:World)(K:Value → World → Prop):Prop:=
  sh.ex λv=>∃w',s.run P w=.ok v w' ∧ K v w'
def runT(P:Program)(t:TypeId)(s:Sem Value)(w:World)(K:Value → World → Prop):Prop:=
  resEx P t λv=>∃w',s.run P w=.ok v w' ∧ K v w'
def doE(P:Program)(s:Sem Unit)(w:World)(K:World → Prop):Prop:=∃w',s.run P w=.ok () w' ∧ K w'
def ldL:List Ty → Addr → Nat → World → (List Value → Prop) → Prop
  | [],_,_,_,K=>K []
  | t :: ts,a,i,w,K=>t.ex λv=>w.cell? (a.add i)=some v ∧ ldL ts a (i+1) w λvs=>K (v :: vs)
def ldE:Shp → Addr → World → (Value → Prop) → Prop
  | .one t,a,w,K=>t.ex λv=>w.cell? a=some v ∧ K v
  | .agg ts,a,w,K=>ldL ts a 0 w λvs=>K (.agg vs.toArray)
  | .row n,a,w,K=>∃cs:Array Value,cs.size=n ∧ (∀i,i<n → w.cell? (a.add i)=cs[i]?) ∧ K (.agg cs)
def shFits(P:Program)(t:TypeId):Shp → Bool
  | .one _=>!aggB P t
  | .agg ts=>aggB P t && Nat.beq ts.length (sizeB P t)
  | .row n=>aggB P t && Nat.beq n (sizeB P t)
def knownB(P:Program)(t:TypeId):Bool:=(P.underlying t).isSome && (P.info? t).isSome
def loadE(P:Program)(t:TypeId)(a:Addr)(w:World)(K:Value → Prop):Prop:=
  match knownB P t && shFits P t (shOf P t)with
  | true=>ldE (shOf P t) a w K
  | false=>False
/-- One cell stored. -/
def st1(a:Addr)(v:Value)(w:World)(K:World → Prop):Prop:=(w.cell? a).isSome=true ∧ w.frozen? a=false ∧ K (w.setCell a v)
def stL:List Value → Addr → Nat → World → (World → Prop) → Prop
  | [],_,_,w,K=>K w
  | v :: vs,a,i,w,K=>st1 (a.add i) v w λw=>stL vs a (i+1) w K
def oneC:Value → Bool
  | .agg _=>false
  | .tuple _=>false
  | _=>true
/-- A row of cells stored. -/
def stRow(cs:Array Value)(a:Addr)(w:World)(K:World → Prop):Prop:=cs.toList.all oneC=true ∧ stL cs.toList a 0 w K
def storeE(P:Program)(t:TypeId)(a:Addr)(v:Value)(w:World)(K:World → Prop):Prop:=
  match knownB P t with
  | true=>match v with
    | .agg cs=>cs.size=sizeB P t ∧ stRow cs a w K
    | .tuple _=>False
    | v=>match Nat.beq (sizeB P t) 1 && oneC v with
      | true=>st1 a v w K
      | false=>False
  | false=>False
def hasBody(P:Program)(f:FuncId):Bool:=match P.funcs[f]? with
  | some fn => fn.body.isSome && !(fn.name == "runtime.NumGoroutine")
  | none=>false
/-- A call of a function with a body. -/
def callP(P:Program)(f:FuncId)(args:Array Value)(t:TypeId)(w:World)(K:Value → World → Prop):Prop:=
  Calls P f args w λe w'=>resEx P t λv=>e=.returned v ∧ K v w'
/-- A call of one without: the model's own. -/
def callX(P:Program)(f:FuncId)(args:Array Value)(t:TypeId)(w:World)(K:Value → World → Prop):Prop:=
  resEx P t λv=>∃w',(callFunc f args).run P w=.ok (.value v) w' ∧ K v w'
def callF(P:Program)(f:FuncId)(args:Array Value)(t:TypeId)(w:World)(K:Value → World → Prop):Prop:=
  match hasBody P f with
  | true=>callP P f args t w K
  | false=>callX P f args t w K
def binE(P:Program)(op:BinOp)(t:TypeId)(x y:Operand)(vx vy:Value)(w:World)(K:Value → World → Prop):Prop:=
  match op,vx,vy with
  | .quo,.int k a,.int k' b=>k=k' ∧ b ≠ 0 ∧ K (.int k (k.wrap (a.tdiv b))) w
  | .rem,.int k a,.int k' b=>k=k' ∧ b ≠ 0 ∧ K (.int k (a.tmod b)) w
  | .shl,.int k a,.int _ b=>0 ≤ b ∧ K (.int k (k.wrap (a * 2 ^ (min b.toNat k.bits)))) w
  | .shr,.int k a,.int _ b=>0 ≤ b ∧ K (.int k (a.fdiv (2 ^ (min b.toNat k.bits)))) w
  | .add,.string a,.string b=>((a.size+b.size:Nat):Int) ≤ 9223372036854775807 ∧ K (.string (a ++ b)) w
  | .eql,.agg a,.agg b=>runE P (.one .bool) (do eqGuard .eql t x y (.agg a) (.agg b);binOp .eql t (.agg a) (.agg b)) w K
  | .neq,.agg a,.agg b=>runE P (.one .bool) (do eqGuard .neq t x y (.agg a) (.agg b);binOp .neq t (.agg a) (.agg b)) w K
  | .eql,.pointer a,.pointer b=>runE P (.one .bool) (do eqGuard .eql t x y (.pointer a) (.pointer b);binOp .eql t (.pointer a) (.pointer b)) w K
  | .neq,.pointer a,.pointer b=>runE P (.one .bool) (do eqGuard .neq t x y (.pointer a) (.pointer b);binOp .neq t (.pointer a) (.pointer b)) w K
  | .eql,.slice a n c,.slice b m d=>runE P (.one .bool) (do eqGuard .eql t x y (.slice a n c) (.slice b m d);binOp .eql t (.slice a n c) (.slice b m d)) w K
  | .neq,.slice a n c,.slice b m d=>runE P (.one .bool) (do eqGuard .neq t x y (.slice a n c) (.slice b m d);binOp .neq t (.slice a n c) (.slice b m d)) w K
  | .eql,.map a,.map b=>runE P (.one .bool) (do eqGuard .eql t x y (.map a) (.map b);binOp .eql t (.map a) (.map b)) w K
  | .neq,.map a,.map b=>runE P (.one .bool) (do eqGuard .neq t x y (.map a) (.map b);binOp .neq t (.map a) (.map b)) w K
  | op,vx,vy=>rawE P (do eqGuard op t x y vx vy;binOp op t vx vy) w K
def intE(v:Value)(K:IntKind → Int → Prop):Prop:=match v with
  | .int k i=>K k i
  | _=>False
def elemOfT(P:Program)(t:TypeId):Option TypeId:=match P.underlying t with
  | some (.slice e)=>some e
  | some (.array _ e)=>some e
  | _=>none
def ixAddrE(P:Program)(t:TypeId)(v i:Value)(K:Addr → Prop):Prop:=
  intE i λ_ n=>match P.underlying t with
    | some (.slice e)=>match knownB P e,v with
      | true,.slice b len _=>∃a,b=some a ∧ 0 ≤ n ∧ n<(len:Int) ∧ K (a.add (n.toNat * sizeB P e))
      | _,_=>False
    | some (.array len e)=>match knownB P e with
      | true=>addrE v λa=>0 ≤ n ∧ n<(len:Int) ∧ K (a.add (n.toNat * sizeB P e))
      | false=>False
    | _=>False
/-- An element of an array's value, or a byte of a string. -/
def ixE(P:Program)(t:TypeId)(v i:Value)(w:World)(K:Value → World → Prop):Prop:=
  match v with
  | .string s=>intE i λ_ n=>match P.underlying t with
    | some .string=>∃b:UInt8,0 ≤ n ∧ s[n.toNat]?=some b ∧ K (.int .u8 b.toNat) w
    | _=>False
  | v=>match elemOfT P t with
    | some e=>runE P (shOf P e) (Instr.index t v i) w K
    | none=>False
def optE(v:Option Value)(d:Nat)(K:Nat → Prop):Prop:=match v with
  | none=>K d
  | some v=>intE v λ_ n=>0 ≤ n ∧ K n.toNat
def sliceE(P:Program)(t:TypeId)(v:Value)(lo hi:Option Value)(K:Value → Prop):Prop:=
  match P.underlying t with
  | some .string=>match v with
    | .string s=>optE hi s.size λh=>h ≤ s.size ∧ optE lo 0 λl=>l ≤ h ∧ K (.string (s.extract l h))
    | _=>False
  | some (.slice e)=>match v with
    | .slice a len cap=>match knownB P e with
      | true=>optE hi len λh=>h ≤ cap ∧ optE lo 0 λl=>l ≤ h ∧ K (.slice (if cap=l then a else a.map (·.add (l * sizeB P e))) (h - l) (cap - l))
      | false=>False
    | _=>False
  | some (.array n e)=>match knownB P e with
    | true=>addrE v λa=>optE hi n λh=>h ≤ n ∧ optE lo 0 λl=>l ≤ h ∧ K (.slice (some (if n=l then a else a.add (l * sizeB P e))) (h - l) (n - l))
    | false=>False
  | _=>False
/-- The next step of a range: none is left, or one comes. -/
def nextE(P:Program)(s:Sem Value)(str:Bool)(w:World)(K:Value → World → Prop):Prop:=
  (∃w',s.run P w=.ok (.tuple #[.bool false]) w' ∧ K (.tuple #[.bool false]) w') ∨
  (match str with
    | true=>∃i c:Int,∃w',s.run P w=.ok (.tuple #[.bool true,.int .i64 i,.int .i32 c]) w' ∧ K (.tuple #[.bool true,.int .i64 i,.int .i32 c]) w'
    | false=>∃k v:Value,∃w',s.run P w=.ok (.tuple #[.bool true,k,v]) w' ∧ K (.tuple #[.bool true,k,v]) w')
def entryE(P:Program)(s:Sem Value)(w:World)(K:Value → World → Prop):Prop:=∃k v:Value,∃w',s.run P w=.ok (.tuple #[k,v]) w' ∧ K (.tuple #[k,v]) w'
def builtinE(P:Program)(b:Builtin)(argTypes:Array TypeId)(t:TypeId)(consts:Array Bool)(args:Array Value)(w:World)(K:Value → World → Prop):Prop:=
  match b with
  | .append=>runT P t (Builtin.append_ argTypes t args) w K
  | .copy=>runT P 3 (Builtin.copy_ argTypes t args) w K
  | .delete=>runT P 0 (Builtin.delete_ argTypes t args) w K
  | .clear=>runT P 0 (Builtin.clear_ argTypes t args) w K
  | .min=>runT P t (Builtin.min_ argTypes t args) w K
  | .max=>runT P t (Builtin.max_ argTypes t args) w K
  | .cap=>rawE P (Builtin.cap_ argTypes t args) w K
  | .unsafeSliceData=>runT P t (Builtin.unsafeSliceData_ argTypes t args) w K
  | .unsafeString=>runT P t (Builtin.unsafeString_ argTypes t args) w K
  | .len=>match args.toList with
    | [.map m]=>runE P (.one (.int .i64)) (Builtin.len_ argTypes t #[.map m]) w K
    | _=>rawE P (Builtin.len_ argTypes t args) w K
  | _=>match consts with
    | _=>False
def opE(P:Program)(o:Oper)(ρ:Env)(ds:List Deferred)(w:World)(K:Value → List Deferred → World → Prop):Prop:=
  match o.op with
  | .move x=>K (ev ρ x) ds w
  | .assign x=>K (ev ρ x) ds w
  | .pick c a b=>boolE (ev ρ c) λt=>Br t (K (ev ρ a) ds w) (K (ev ρ b) ds w)
  | .alloc elem=>match (P.info? elem).bind (·.zero)with
    | some z=>K (.pointer (some ⟨w.heap.size,0,none⟩)) ds (w.alloc (.cells z.cells elem))
    | none=>False
  | .box elem x=>K (.pointer (some ⟨w.heap.size,0,none⟩)) ds (w.alloc (.cells (ev ρ x).cells elem))
  | .build t parts=>rawE P (Instr.build t (parts.toList.map λ(i,x)=>(i,ev ρ x)).toArray) w λv w=>K v ds w
  | .buildSlice t len parts=>rawE P (Instr.buildSlice t len (parts.toList.map λ(i,x)=>(i,ev ρ x)).toArray) w λv w=>K v ds w
  | .load t a=>addrE (ev ρ a) λad=>loadE P t ad w λv=>K v ds w
  | .store t a x=>addrE (ev ρ a) λad=>storeE P t ad (ev ρ x) w λw=>K undef ds w
  | .nilCheck x=>addrE (ev ρ x) λa=>K (.pointer (some a)) ds w
  | .binOp op t x y _=>binE P op t x y (ev ρ x) (ev ρ y) w λv w=>K v ds w
  | .unOp op _ x=>rawE P (Op.unary op (ev ρ x)) w λv w=>K v ds w
  | .convert src dst x=>match ev ρ x with
    | .int k n=>rawE P (convert src dst (.int k n)) w λv w=>K v ds w
    | v=>runT P dst (convert src dst v) w λv w=>K v ds w
  | .makeFunc fn first cap=>K (.func fn (first.toList.map (ev ρ)).toArray (cap.toList.map (ev ρ)).toArray) ds w
  | .makeMap t none=>rawE P (Instr.makeMap t none) w λv w=>K v ds w
  | .makeMap t (some r)=>runT P t (Instr.makeMap t (some (ev ρ r))) w λv w=>K v ds w
  | .makeSlice t l c=>runT P t (Instr.makeSlice t (ev ρ l) (ev ρ c)) w λv w=>K v ds w
  | .slice t x lo hi none=>sliceE P t (ev ρ x) (match lo with|some y=>some (ev ρ y)|none=>none) (match hi with|some y=>some (ev ρ y)|none=>none) λv=>K v ds w
  | .slice t x lo hi (some m)=>runE P (.one .slice) (Instr.sliceAt t (ev ρ x) (lo.map (ev ρ)) (hi.map (ev ρ)) (some (ev ρ m))) w λv w=>K v ds w
  | .fieldAddr s x f=>addrE (ev ρ x) λa=>rawE P (Instr.fieldAt s (.pointer (some a)) f) w λv w=>K v ds w
  | .field t x f=>rawE P (Instr.field t (ev ρ x) f) w λv w=>K v ds w
  | .indexAddr t x i=>ixAddrE P t (ev ρ x) (ev ρ i) λa=>K (.pointer (some a)) ds w
  | .index t x i=>ixE P t (ev ρ x) (ev ρ i) w λv w=>K v ds w
  | .lookup t x i ok=>runT P o.type (Instr.lookup t (ev ρ x) (ev ρ i) ok) w λv w=>K v ds w
  | .mapUpdate t m k x=>doE P (Instr.mapUpdate t (ev ρ m) (ev ρ k) (ev ρ x)) w λw=>K undef ds w
  | .insert t m k x=>doE P (Instr.mapUpdate t (ev ρ m) (ev ρ k) (ev ρ x)) w λw=>K undef ds w
  | .mapEntry t m k=>runE P (.one .any) (Instr.mapEntry t (ev ρ m) (ev ρ k)) w λv w=>K v ds w
  | .entryStore t m s x=>doE P (Instr.entryStore t (ev ρ m) (ev ρ s) (ev ρ x)) w λw=>K undef ds w
  | .range t x=>runE P (.one .ptr) (Instr.range t (ev ρ x)) w λv w=>K v ds w
  | .next it b=>nextE P (Instr.next (ev ρ it) b o.type) b w λv w=>K v ds w
  | .entry it=>entryE P (Instr.entry (ev ρ it)) w λv w=>K v ds w
  | .extract t ix=>rawE P (Instr.extract (ev ρ t) ix) w λv w=>(shOf P o.type).dec v λv=>K v ds w
  | .makeInterface t x=>runT P o.type (Instr.makeInterface t (ev ρ x)) w λv w=>K v ds w
  | .call c=>match c.callee with
    | .value (.func f)=>callF P f (c.args.toList.map (ev ρ)).toArray o.type w λv w=>K v ds w
    | .value f=>fnE (ev ρ f) λf first cap=>hasBody P f=true ∧ callP P f (first.toList ++ (c.args.toList.map (ev ρ) ++ cap.toList)).toArray o.type w λv w=>K v ds w
    | .builtin b=>builtinE P b c.argTypes o.type (c.args.map fun|.const _=>true|_=>false) (c.args.toList.map (ev ρ)).toArray w λv w=>K v ds w
    | .invoke _ _=>False
  | .defer c=>match c.callee with
    | .value f=>fnE (ev ρ f) λf first cap=>K undef ({ target:=.fn (.func f) cap,args:=(first.toList ++ c.args.toList.map (ev ρ)).toArray } :: ds) w
    | _=>False
  | _=>False
def alE(o:Obj)(w:World)(K:Nat → World → Prop):Prop:=K w.heap.size (w.alloc o)
def zc(P:Program)(t:TypeId):Array Value:=match (P.info? t).bind (·.zero)with
  | some z=>z.cells
  | none=>#[]
def dwE(w:World)(K:World → Prop):Prop:=K w.drew
def stA(P:Program)(t:TypeId)(a:Addr)(cs:Array Value)(w:World)(K:World → Prop):Prop:=cs.size=sizeB P t ∧ stRow cs a w K
def eqS(op:BinOp)(t:TypeId)(x y:Operand)(vx vy:Value):Sem Value:=do eqGuard op t x y vx vy;binOp op t vx vy
end Go.Sh
