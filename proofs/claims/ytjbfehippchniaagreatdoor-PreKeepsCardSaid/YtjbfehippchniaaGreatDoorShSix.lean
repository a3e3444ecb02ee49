import Derived.Test.YtjbfehippchniaaGreatDoorShFive
/- A region that draws its order: what is asked of one walk ('drawE') so that every order comes to its end; its soundness. For every program. -/
namespace Go.Sh
variable {P : Program}
def ldSL(S:World → Prop):List Ty → Addr → Nat → (List Value → Prop) → Prop
  | [],_,_,K=>K []
  | t :: ts,a,i,K=>t.ex λv=>(∀w,S w → w.cell? (a.add i)=some v) ∧ ldSL S ts a (i+1) λvs=>K (v :: vs)
def ldS(S:World → Prop):Shp → Addr → (Value → Prop) → Prop
  | .one t,a,K=>t.ex λv=>(∀w,S w → w.cell? a=some v) ∧ K v
  | .agg ts,a,K=>ldSL S ts a 0 λvs=>K (.agg vs.toArray)
  | .row n,a,K=>∃cs:Array Value,cs.size=n ∧ (∀w,S w → ∀i,i<n → w.cell? (a.add i)=cs[i]?) ∧ K (.agg cs)
def loadS(P:Program)(S:World → Prop)(t:TypeId)(a:Addr)(K:Value → Prop):Prop:=
  match knownB P t && shFits P t (shOf P t)with
  | true=>ldS S (shOf P t) a K
  | false=>False
theorem ldSL_all{S:World → Prop}:∀{ts:List Ty} {a:Addr} {i:Nat} {K:List Value → Prop},ldSL S ts a i K → ∃vs,K vs ∧ vs.length=ts.length ∧ ∀w,S w → ∀j v,vs[j]?=some v → w.cell? (a.add (i+j))=some v
  | [],_,_,_,h=>⟨[],h,rfl,by simp⟩
  | t :: ts,a,i,K,h=>by
    obtain⟨v,hv,h2⟩:=Ty.ex_elim h
    obtain⟨vs,h3,h4,h5⟩:=ldSL_all h2
    refine⟨v :: vs,h3,by simp[h4],λw hw j x hx=>?_⟩
    cases j with
    | zero=>simp at hx;subst hx;exact hv w hw
    | succ j=>have:=h5 w hw j x (by simpa using hx);rwa [show i+(j+1)=i+1+j by omega]
theorem loadS_sound{S:World → Prop}{t:TypeId}{a:Addr}{K:Value → Prop}(h:loadS P S t a K):∃v,K v ∧ ∀w,S w → (loadVar t a).run P w=.ok v w:=by
  unfold loadS at h
  split at h
  case h_2=>exact h.elim
  rename_i hk
  simp only[Bool.and_eq_true]at hk
  obtain⟨hk,hf⟩:=hk
  obtain⟨hu,hi⟩:=knownB_spec hk
  generalize shOf P t=sh at h hf
  cases sh with
  | one ty=>
    obtain⟨v,hv,hK⟩:=Ty.ex_elim h
    refine⟨v,hK,λw hw=>?_⟩
    simp[shFits]at hf
    simp[loadVar,run_isAgg' hu,hf,hv w hw]
  | agg ts=>
    obtain⟨vs,hK,hl,hc⟩:=ldSL_all h
    refine⟨_,hK,λw hw=>?_⟩
    simp only[shFits,Bool.and_eq_true]at hf
    have hs:vs.length=sizeB P t:=by rw[hl];exact Nat.eq_of_beq_eq_true hf.2
    have:=run_loadCells_list (P:=P) w a vs (λj v hv=>by have:=hc w hw j v hv;rwa [Nat.zero_add]at this)
    rw[hs]at this
    simp[loadVar,run_isAgg' hu,hf.1,run_sizeOf' hi,this]
  | row n=>
    obtain⟨cs,hn,hc,hK⟩:=h
    refine⟨_,hK,λw hw=>?_⟩
    simp only[shFits,Bool.and_eq_true]at hf
    have hs:cs.toList.length=sizeB P t:=by simp[hn];exact Nat.eq_of_beq_eq_true hf.2
    have:=run_loadCells_list (P:=P) w a cs.toList (λj v hv=>by
      have hj:j<n:=by rw[←hn];simpa using (List.getElem?_eq_some_iff.1 hv).1
      rw[hc w hw j hj];simpa using hv)
    rw[hs]at this
    simp[loadVar,run_isAgg' hu,hf.1,run_sizeOf' hi,this]
/-- The worlds in which a read is asked for: the one at hand, or all that meet a condition. -/
def inS (Sm:Option (World → Prop)) (w w':World):Prop:=match Sm with
  | none=>w'=w
  | some S=>S w'
def readE (P:Program) (Sm:Option (World → Prop)) (t:TypeId) (s:Sem Value) (w:World) (K:Value → Prop):Prop:=
  match Sm with
  | none=>resEx P t λv=>s.run P w=.ok v w ∧ K v
  | some S=>resEx P t λv=>(∀w',S w' → s.run P w'=.ok v w') ∧ K v
theorem readE_elim {Sm:Option (World → Prop)} {t:TypeId} {s:Sem Value} {w:World} {K:Value → Prop} (h:readE P Sm t s w K):∃v,K v ∧ ∀w',inS Sm w w' → s.run P w'=.ok v w':=by
  unfold readE at h
  cases Sm with
  | none=>obtain⟨v,h1,h2⟩:=resEx_elim h;exact⟨v,h2,λw' hw=>by cases hw;exact h1⟩
  | some S=>obtain⟨v,h1,h2⟩:=resEx_elim h;exact⟨v,h2,h1⟩
def lopE (P:Program) (o:Oper) (ρ:Env) (Sm:Option (World → Prop)) (w:World) (K:Value → Prop):Prop:=
  match o.op with
  | .load t a=>addrE (ev ρ a) λad=>match Sm with
    | none=>loadE P t ad w K
    | some S=>loadS P S t ad K
  | .lookup t x i ok=>readE P Sm o.type (Instr.lookup t (ev ρ x) (ev ρ i) ok) w K
  | .call c=>match c.callee with
    | .builtin .len=>match c.args.toList.map (ev ρ)with
      | [.map m]=>readE P Sm 3 (Builtin.len_ c.argTypes o.type #[.map m]) w K
      | _=>False
    | _=>False
  | _=>False
theorem lopE_sound {o:Oper} {ρ:Env} {Sm:Option (World → Prop)} {w:World} {K:Value → Prop} (h:lopE P o ρ Sm w K):∃v,K v ∧ ∀w',inS Sm w w' → (execOp (ev ρ) o).run P w'=.ok (.value v) w':=by
  unfold lopE at h
  split at h
  case h_1 t a hop=>
    obtain⟨ad,hx,h⟩:=addrE_elim h
    have:∃v,K v ∧ ∀w',inS Sm w w' → (loadVar t ad).run P w'=.ok v w':=by
      cases Sm with
      | none=>obtain⟨v,h1,h2⟩:=loadE_sound h;exact⟨v,h2,λw' hw=>by cases hw;exact h1⟩
      | some S=>exact loadS_sound h
    obtain⟨v,hK,hr⟩:=this
    refine⟨v,hK,λw' hw=>?_⟩
    unfold execOp;rw[hop];simp[Instr.loadAt,hx,Instr.sureAddr,hr w' hw]
  case h_2 t x i ok hop=>
    obtain⟨v,hK,hr⟩:=readE_elim h
    refine⟨v,hK,λw' hw=>?_⟩
    unfold execOp;rw[hop];simp[hr w' hw]
  case h_3 c hop=>
    split at h
    · rename_i hc
      split at h
      · rename_i m hx
        obtain⟨v,hK,hr⟩:=readE_elim h
        have e:c.args.map (ev ρ)=#[.map m]:=by apply Array.ext';simpa using hx
        refine⟨v,hK,λw' hw=>?_⟩
        have e2:execOp (ev ρ) o=(do pure (.value (←Builtin.len_ c.argTypes o.type #[.map m])):Sem Next):=by
          unfold execOp
          simp only[hop]
          unfold resolve
          simp only[hc,e]
          rfl
        rw[e2];simp[hr w' hw]
      · exact h.elim
    · exact h.elim
  case h_4=>exact h.elim
def isMapT(P:Program)(t:TypeId):Bool:=match P.underlying t with
  | some (.map _ _)=>true
  | _=>false
def isIntT(P:Program)(t:TypeId):Bool:=match P.underlying t with
  | some (.int _)=>true
  | _=>false
def isLk(P:Program)(o:Oper):Bool:=match o.op with
  | .load _ _=>true
  | .lookup _ _ _ _=>true
  | .call c=>match c.callee with
    | .builtin .len=>isMapT P (c.argTypes.getD 0 0)
    | _=>false
  | _=>false
def isPk(P:Program)(o:Oper):Bool:=match o.op with
  | .move _|.assign _|.pick _ _ _|.build _ _|.nilCheck _|.binOp _ _ _ _ _|.unOp _ _ _|.makeFunc _ _ _|.fieldAddr _ _ _|.field _ _ _|.indexAddr _ _ _|.index _ _ _|.extract _ _=>true
  | .slice _ _ _ _ none=>true
  | .convert s d _=>isIntT P s && isIntT P d
  | .call c=>match c.callee with
    | .builtin .len=>!isMapT P (c.argTypes.getD 0 0)
    | _=>false
  | _=>false
/-- Which operations an operation waits for, as bits. -/
def maskOf(acc:List Nat)(o:Oper):Nat:=o.after.toList.foldl (λs e=>cond (Region.binds .any e) (s ||| 2 ^ e.on ||| acc.getD e.on 0) s) 0
def masks:List Nat → List Oper → List Nat
  | acc,[]=>acc
  | acc,o :: rest=>masks (acc ++ [maskOf acc o]) rest
def lMask(P:Program)(ops:List Oper):Nat → Nat
  | i=>match ops with
    | []=>0
    | o :: rest=>cond (isLk P o) (2 ^ i) 0 ||| lMask P rest (i+1)
/-- Those that change memory and wait for every read of the region. -/
def tailB(P:Program)(ops:Array Oper)(j:Nat):Bool:=
  match ops[j]? with
  | some o=>!(isPk P o) && !(isLk P o) && Nat.beq ((masks [] ops.toList).getD j 0 &&& lMask P ops.toList 0) (lMask P ops.toList 0)
  | none=>false
def NoTail(P:Program)(ops:Array Oper)(listed:Array Bool):Prop:=∀t,tailB P ops t=true → listed.getD t false=false
def Closed(ops:Array Oper)(listed:Array Bool):Prop:=∀j oj,ops[j]?=some oj → listed.getD j false=true → ∀e ∈ oj.after,Region.binds .any e=true → listed.getD e.on false=true
def Preds(ops:Array Oper)(listed:Array Bool)(j:Nat):Prop:=∀oj,ops[j]?=some oj → ∀e ∈ oj.after,Region.binds .any e=true → listed.getD e.on false=true
theorem mask_fold(acc:List Nat)(i:Nat):∀(l:List Edge) (s:Nat),(l.foldl (λs e=>cond (Region.binds .any e) (s ||| 2 ^ e.on ||| acc.getD e.on 0) s) s).testBit i=true →
    s.testBit i=true∨∃e ∈ l,Region.binds .any e=true ∧ (e.on=i∨(acc.getD e.on 0).testBit i=true)
  | [],s,h=>.inl h
  | e :: l,s,h=>by
    simp only[List.foldl_cons]at h
    rcases mask_fold acc i l _ h with h|⟨e',he',h'⟩
    · cases hb:Region.binds .any e with
      | false=>rw[hb]at h;exact .inl h
      | true=>
        rw[hb]at h
        simp only[cond_true,Nat.testBit_or,Bool.or_eq_true]at h
        rcases h with(h|h)|h
        · exact .inl h
        · rw[Nat.testBit_two_pow]at h
          exact .inr ⟨e,by simp,hb,.inl (by simpa using h)⟩
        · exact .inr ⟨e,by simp,hb,.inr h⟩
    · exact .inr ⟨e',by simp[he'],h'⟩
theorem masks_spec{ops:Array Oper}{listed:Array Bool}(hc:Closed ops listed):∀(rest:List Oper) (acc:List Nat),(∀j,rest[j]?=ops[acc.length+j]?) →
    (∀j i,(acc.getD j 0).testBit i=true → Preds ops listed j → listed.getD i false=true) →
    ∀j i,((masks acc rest).getD j 0).testBit i=true → Preds ops listed j → listed.getD i false=true
  | [],acc,_,h=>h
  | o :: rest,acc,hr,h=>by
    refine masks_spec hc rest (acc ++ [maskOf acc o]) (λj=>?_) (λj i hb hp=>?_)
    · have:=hr (j+1)
      simp only[List.getElem?_cons_succ]at this
      rw[this,List.length_append,List.length_singleton,Nat.add_assoc,Nat.add_comm 1 j]
    · rcases Nat.lt_trichotomy j acc.length with hj|hj|hj
      · exact h j i (by simpa[List.getD,List.getElem?_append_left hj] using hb) hp
      · subst hj
        have ho:ops[acc.length]?=some o:=by simpa using (hr 0).symm
        simp only[List.getD,List.getElem?_append_right (Nat.le_refl _),Nat.sub_self,List.getElem?_cons_zero,Option.getD_some]at hb
        rcases mask_fold acc i o.after.toList 0 hb with hz|⟨e,he,hbd,hon⟩
        · simp at hz
        · have hl:=hp o ho e (by simpa using he) hbd
          rcases hon with hon|hon
          · rw[←hon];exact hl
          · refine h e.on i hon λoj hoj e' he' hb'=>hc e.on oj hoj hl e' he' hb'
      · have:(acc ++ [maskOf acc o])[j]?=none:=by apply List.getElem?_eq_none;simp;omega
        rw[List.getD,this]at hb
        simp at hb
theorem lMask_spec{i:Nat}:∀(l:List Oper) (k:Nat) (o:Oper),l[i]?=some o → isLk P o=true → (lMask P l k).testBit (k+i)=true:=by
  induction i with
  | zero=>
    intro l k o ho hl
    cases l with
    | nil=>simp at ho
    | cons x l=>simp at ho;subst ho;simp[lMask,hl,Nat.testBit_or]
  | succ i ih=>
    intro l k o ho hl
    cases l with
    | nil=>simp at ho
    | cons x l=>
      have:=ih l (k+1) o (by simpa using ho) hl
      rw[show k+1+i=k+(i+1)by omega]at this
      simp[lMask,Nat.testBit_or,this]
theorem tail_after {ops:Array Oper} {listed:Array Bool} (hc:Closed ops listed) {j i:Nat} {o:Oper} (ht:tailB P ops j=true) (ho:ops[i]?=some o) (hl:isLk P o=true) (hp:Preds ops listed j) :
    listed.getD i false=true:=by
  unfold tailB at ht
  split at ht
  case h_2=>cases ht
  simp only[Bool.and_eq_true]at ht
  have ht:=Nat.eq_of_beq_eq_true ht.2
  have h1:=lMask_spec (P:=P) (i:=i) ops.toList 0 o (by simpa using ho) hl
  rw[Nat.zero_add]at h1
  have h2:((masks [] ops.toList).getD j 0 &&& lMask P ops.toList 0).testBit i=true:=by rw[ht];exact h1
  rw[Nat.testBit_and,Bool.and_eq_true]at h2
  exact masks_spec hc ops.toList [] (λj=>by simp) (λj i hb=>by simp at hb) j i h2.1 hp
/-- Whatever comes up; behind an operation that is no last one 'S' holds. -/
def wpAnyT(P:Program)(ops:Array Oper)(Q:Exit → Act → World → Prop)(S:World → Prop):Nat → Array Bool → Act → World → Prop
  | 0,listed,a,w=>Region.ready .any ops listed=[] ∧ Q .normal a w
  | f+1,listed,a,w=>
    (Region.ready .any ops listed=[] → Q .normal a w) ∧
    ∀i ∈ Region.ready .any ops listed,wpOp P ops Q i (λa' w'=>(NoTail P ops (listed.setIfInBounds i true) → S w') ∧ wpAnyT P ops Q S f (listed.setIfInBounds i true) a' w') a w
theorem wpAny_of_T{ops:Array Oper}{Q:Exit → Act → World → Prop}{S:World → Prop}:∀(f:Nat) (listed:Array Bool) (a:Act) (w:World),wpAnyT P ops Q S f listed a w → wpAny P .any ops Q f listed a w
  | 0,_,_,_,h=>h
  | f+1,_,_,_,h=>⟨h.1,λi hi=>wpOp_mono (λa' w' h'=>wpAny_of_T f _ a' w' h'.2) (h.2 i hi)⟩
theorem ready_preds{ops:Array Oper}{listed:Array Bool}{j:Nat}(h:j ∈ Region.ready .any ops listed):Preds ops listed j:=λoj hoj e he hb=>by
  obtain⟨_,o,ho,hall⟩:=mem_ready.1 h
  rw[hoj]at ho
  cases ho
  exact hall e he hb
theorem Closed.set{ops:Array Oper}{listed:Array Bool}(h:Closed ops listed){i:Nat}(hi:i ∈ Region.ready .any ops listed):Closed ops (listed.setIfInBounds i true):=λj oj hj hl e he hb=>by
  by_cases hij:i=j
  · subst hij;exact getD_set_true (ready_preds hi oj hj e he hb)
  · rw[getD_set_ne false hij]at hl
    exact getD_set_true (h j oj hj hl e he hb)
theorem NoTail.set{ops:Array Oper}{listed:Array Bool}{i:Nat}(h:NoTail P ops listed)(hi:tailB P ops i=false):NoTail P ops (listed.setIfInBounds i true):=λt ht=>by
  have hne:i ≠ t:=λe=>by subst e;rw[hi]at ht;cases ht
  rw[getD_set_ne false hne];exact h t ht
theorem NoTail.unset {ops:Array Oper} {listed:Array Bool} {i:Nat} (h:NoTail P ops (listed.setIfInBounds i true)):NoTail P ops listed:=λt ht=>by
  cases hl:listed.getD t false with
  | false=>rfl
  | true=>rw[←h t ht];exact(getD_set_true hl).symm ▸ rfl
theorem wpAnyT_first {ops:Array Oper} {Q:Exit → Act → World → Prop} {S T:World → Prop} {i:Nat} {oi:Oper} {v:Value} (hi:ops[i]?=some oi) (hsel:∀(j:Nat) (o:Oper) cs b,ops[j]?=some o → o.op ≠ .select cs b)
    (hQ:∀c a w,¬Q (.panic c) a w) (hti:tailB P ops i=false) (hT:(∀w,T w)∨(isLk P oi=true ∧ ∀w,S w → T w)) :
    ∀(fuel:Nat) (listed:Array Bool) (a:Act) (w:World),Closed ops listed →
      (∀j oj,ops[j]?=some oj → j ≠ i → listed.getD j true=false → (∀e ∈ oj.after,Region.binds .any e=true → e.on ≠ i) → oi.apart ops oj=true) →
      i ∈ Region.ready .any ops listed → YieldsIf P ops T oi v a → T w → (NoTail P ops listed → S w) →
      wpAnyT P ops Q S fuel (listed.setIfInBounds i true) (a.put oi.dst v) w → wpAnyT P ops Q S (fuel+1) listed a w:=by
  intro fuel
  induction fuel with
  | zero=>
    intro listed a w _ _ hr hy hTw hSw H
    refine⟨λh=>(by rw[h]at hr;cases hr),λj hj=>?_⟩
    by_cases hji:j=i
    · subst hji;exact hy.wpOp hi hTw ⟨λh=>hSw h.unset,H⟩
    · have:=ready_mono hj hji
      rw[H.1]at this
      cases this
  | succ fuel ih=>
    intro listed a w hcl hfree hr hy hTw hSw H
    refine⟨λh=>(by rw[h]at hr;cases hr),λj hj=>?_⟩
    by_cases hji:j=i
    · subst hji;exact hy.wpOp hi hTw ⟨λh=>hSw h.unset,H⟩
    · have h1:=H.2 j (ready_mono hj hji)
      obtain⟨hjun,oj,hoj,hall⟩:=mem_ready.1 hj
      have hun:listed.getD i false=false:=by
        have h0:=(mem_ready.1 hr).1
        rcases Nat.lt_or_ge i listed.size with h'|h'
        · simp[h']at h0 ⊢;exact h0
        · simp[Array.getElem?_eq_none h']
      have hunj:(listed.setIfInBounds j true).getD i false=false:=by rw[getD_set_ne false hji];exact hun
      have hnot:∀e ∈ oj.after,Region.binds .any e=true → e.on ≠ i:=λe he hb heq=>by
        have h1:=hall e he hb
        rw[heq,hun]at h1;cases h1
      have hclj:=hcl.set hj
      have hS':∀w',(NoTail P ops ((listed.setIfInBounds i true).setIfInBounds j true) → S w') → NoTail P ops (listed.setIfInBounds j true) → S w':=λw' h hn=>by
        refine h ?_
        rw[Array.setIfInBounds_comm _ _ (Ne.symm hji)]
        exact hn.set hti
      have hpres:∀w',(NoTail P ops ((listed.setIfInBounds i true).setIfInBounds j true) → S w') → T w':=λw' h=>by
        rcases hT with hT|⟨hL,hT⟩
        · exact hT w'
        · refine hT w' (hS' w' h λt ht=>?_)
          cases hl:(listed.setIfInBounds j true).getD t false with
          | false=>rfl
          | true=>
            have:=tail_after hclj ht hi hL (λot hot e he hb=>hclj t ot hot hl e he hb)
            rw[hunj]at this;cases this
      have h2:=wpOp_putIf hoj (hfree j oj hoj hji hjun hnot) (λcs b=>hsel i oi cs b hi) (λcs b=>hsel j oj cs b hoj) (λc a w h=>(hQ c _ w h).elim) hy h1
      have hfree':∀k ok,ops[k]?=some ok → k ≠ i → (listed.setIfInBounds j true).getD k true=false →
          (∀e ∈ ok.after,Region.binds .any e=true → e.on ≠ i) → oi.apart ops ok=true:=λk ok hk hki hun hno=>by
        refine hfree k ok hk hki ?_ hno
        by_cases hjk:j=k
        · subst hjk;exact hjun
        · rw[getD_set_ne true hjk]at hun;exact hun
      refine wpOp_mono (λa' w' h3=>⟨hS' w' h3.2.1,ih (listed.setIfInBounds j true) a' w' hclj hfree' (ready_mono hr (Ne.symm hji)) h3.1 (hpres w' h3.2.1) (hS' w' h3.2.1) ?_⟩) h2
      rw[Array.setIfInBounds_comm _ _ hji]
      exact h3.2.2
/-- Which operation is taken first: one that touches no memory, or only reads it, and that nobody who could come before it disturbs. -/
def firstB(P:Program)(ops:Array Oper)(listed:Array Bool):List Nat → Option Nat
  | []=>none
  | i :: rest=>match ops[i]? with
    | some o=>match (isPk P o || isLk P o) && Region.free .any ops listed i with
      | true=>some i
      | false=>firstB P ops listed rest
    | none=>firstB P ops listed rest
def allL:List Nat → (Nat → Prop) → Prop
  | [],_=>True
  | [i],F=>F i
  | i :: rest,F=>F i ∧ allL rest F
theorem allL_spec:∀{l:List Nat} {F:Nat → Prop},allL l F → ∀i ∈ l,F i
  | [],_,_,i,hi=>by cases hi
  | [j],_,h,i,hi=>by simp at hi;subst hi;exact h
  | j :: k :: rest,_,h,i,hi=>by
    rcases List.mem_cons.1 hi with rfl|hi
    · exact h.1
    · exact allL_spec h.2 i hi
/-- A look-up in a map that a call of the same region hands back: what is known may grow behind each operation. -/
def lateB(ops:Array Oper):Bool:=ops.toList.any λo=>match o.op with
  | .lookup _ (.tmp t) _ _=>ops.toList.any λo'=>match o'.op with
    | .call _=>(match o'.dst with|some d=>Nat.beq d t|none=>false)
    | _=>false
  | _=>false
/-- Behind what changes memory and is no last one, the condition is asked for anew, as long as no last operation has come up. -/
def midE (late tail live:Bool) (Sm:Option (World → Prop)) (w':World) (Y:Option (World → Prop) → Prop):Prop:=match tail with
  | true=>Y Sm
  | false=>match Sm with
    | none=>False
    | some S=>match live with
      | true=>match late with
        | false=>S w' ∧ Y (some S)
        | true=>∃S':World → Prop,S' w' ∧ (∀u,S' u → S u) ∧ Y (some S')
      | false=>Y (some S)
/-- 'live': no last operation has come up. -/
def drawE(P:Program)(ops:Array Oper)(K:EP):Nat → Array Bool → Bool → Option (World → Prop) → EP
  | 0,listed,_,_,ρ,ds,w=>match Region.ready .any ops listed with
    | []=>K ρ ds w
    | _=>False
  | n+1,listed,live,Sm,ρ,ds,w=>
    match firstB P ops listed (Region.ready .any ops listed)with
    | some i=>match ops[i]? with
      | none=>False
      | some o=>guardE ops o ρ
        (λρ=>match isPk P o with
          | true=>pureOp P o ρ λv=>drawE P ops K n (listed.setIfInBounds i true) live Sm (upd ρ o.dst v) ds w
          | false=>match live with
            | true=>lopE P o ρ Sm w λv=>drawE P ops K n (listed.setIfInBounds i true) live Sm (upd ρ o.dst v) ds w
            | false=>False)
        (λρ=>drawE P ops K n (listed.setIfInBounds i true) live Sm (upd ρ o.dst undef) ds w)
    | none=>match Region.ready .any ops listed with
      | []=>K ρ ds w
      | rs=>allL rs λi=>match ops[i]? with
        | none=>False
        | some o=>guardE ops o ρ
          (λρ=>opE P o ρ ds w λv ds w'=>midE (lateB ops) (tailB P ops i) live Sm w' (λSm=>drawE P ops K n (listed.setIfInBounds i true) (live && !tailB P ops i) Sm (upd ρ o.dst v) ds w'))
          (λρ=>drawE P ops K n (listed.setIfInBounds i true) (live && !tailB P ops i) Sm (upd ρ o.dst undef) ds w)
theorem firstB_spec{ops:Array Oper}{listed:Array Bool}:∀{l:List Nat} {i:Nat},firstB P ops listed l=some i → i ∈ l ∧ ∃o,ops[i]?=some o ∧ (isPk P o=true∨isLk P o=true) ∧ Region.free .any ops listed i=true
  | [],_,h=>by cases h
  | j :: rest,i,h=>by
    unfold firstB at h
    split at h
    · rename_i o ho
      split at h
      · rename_i hc
        cases h
        simp only[Bool.and_eq_true,Bool.or_eq_true]at hc
        exact⟨by simp,o,ho,hc.1,hc.2⟩
      · obtain⟨h1,h2⟩:=firstB_spec h;exact⟨by simp[h1],h2⟩
    · obtain⟨h1,h2⟩:=firstB_spec h;exact⟨by simp[h1],h2⟩
def sIs (Sm:Option (World → Prop)) (w1:World) (w:World):Prop:=match Sm with
  | none=>w=w1
  | some S=>S w
theorem wpAnyT_mono{ops:Array Oper}{Q:Exit → Act → World → Prop}{S S':World → Prop}(hs:∀u,S' u → S u):∀(f:Nat) (listed:Array Bool) (a:Act) (w:World),wpAnyT P ops Q S' f listed a w → wpAnyT P ops Q S f listed a w
  | 0,_,_,_,h=>h
  | f+1,_,_,_,h=>⟨h.1,λi hi=>wpOp_mono (λa' w' h'=>⟨λhn=>hs _ (h'.1 hn),wpAnyT_mono hs f _ a' w' h'.2⟩) (h.2 i hi)⟩
theorem drawE_sound {n:Nat} {ops:Array Oper} (hf:fitsOps n ops=true) (hsel:Region.noSelect ops=true) {w1:World} {K:EP} {Q:Exit → Act → World → Prop} (hQ:∀c a w,¬Q (.panic c) a w) (a0:Act)
    (hK:∀a' w',Agree (asgOps ops.toList) (noDefOps ops.toList) a0 a' → K (envOf a') a'.defers w' → Q .normal a' w') :
    ∀(f:Nat) (listed:Array Bool) (live:Bool) (Sm:Option (World → Prop)) (a:Act) (w:World),a.tmps.size=n → Closed ops listed → (NoTail P ops listed → live=true) → (live=true → sIs Sm w1 w) →
      Agree (asgOps ops.toList) (noDefOps ops.toList) a0 a → drawE P ops K f listed live Sm (envOf a) a.defers w → wpAnyT P ops Q (sIs Sm w1) f listed a w:=by
  have hput:∀(o:Oper) (i:Nat) (a:Act),ops[i]?=some o → a.tmps.size=n → ∀d,o.dst=some d → d<a.tmps.size:=λo i a ho hs d hd=>by
    rw[hs];exact fitsOps_spec hf (List.mem_of_getElem? (l:=ops.toList) (i:=i) (by simpa using ho)) hd
  have hag:∀(o:Oper) (i:Nat) (a:Act) (v:Value),ops[i]?=some o → Agree (asgOps ops.toList) (noDefOps ops.toList) a (a.put o.dst v):=λo i a v ho=>by
    refine(Agree.put a o v (noDefOps ops.toList)).weaken (λt ht=>?_) (λh=>h)
    have hm:o ∈ ops.toList:=List.mem_of_getElem? (l:=ops.toList) (i:=i) (by simpa using ho)
    simp only[asgOps,List.any_eq_false]at ht
    simp only[asgOps,List.any_cons,List.any_nil,Bool.or_false]
    have:=ht o hm
    simpa using this
  intro f
  induction f with
  | zero=>
    intro listed live Sm a w hs hcl hlv hS hAg h
    unfold drawE at h
    split at h
    · rename_i hr;exact⟨hr,hK a w hAg h⟩
    · exact h.elim
  | succ f ih=>
    intro listed live Sm a w hs hcl hlv hS hAg h
    unfold drawE at h
    split at h
    · rename_i i hfi
      obtain⟨hmem,o,ho,hkind,hfree⟩:=firstB_spec hfi
      rw[ho]at h
      simp only at h
      have hti:tailB P ops i=false:=by
        unfold tailB
        rw[ho]
        rcases hkind with hk|hk <;> simp[hk]
      have hlv':NoTail P ops (listed.setIfInBounds i true) → live=true:=λhn=>hlv hn.unset
      have next:∀v,drawE P ops K f (listed.setIfInBounds i true) live Sm (upd (envOf a) o.dst v) a.defers w → wpAnyT P ops Q (sIs Sm w1) f (listed.setIfInBounds i true) (a.put o.dst v) w:=λv hv=>
        ih _ live Sm _ w (by rw[Act.put_size];exact hs) (hcl.set hmem) hlv' hS (hAg.trans (hag o i a v ho)) (by rw[envOf_put (hput o i a ho hs),Act.put_def];exact hv)
      have hSw:NoTail P ops listed → sIs Sm w1 w:=λhn=>hS (hlv hn)
      rcases guardE_sound hf hs h with⟨hw,hY⟩|⟨hw,hN⟩
      · split at hY
        · obtain⟨v,hd,hr⟩:=pureOp_sound hY
          rw[ev_envOf]at hr
          exact wpAnyT_first (T:=λ_=>True) ho (Region.noSelect_spec hsel) hQ hti (.inl λ_=>trivial) f listed a w hcl (Region.free_spec ho hfree) hmem (.inl ⟨hw,λw' _=>hr w'⟩) trivial hSw (next v hd)
        · rename_i hp
          split at hY
          · have hL:isLk P o=true:=hkind.resolve_left (by simp[hp])
            obtain⟨v,hd,hr⟩:=lopE_sound hY
            rw[ev_envOf]at hr
            have hSw':sIs Sm w1 w:=hS rfl
            refine wpAnyT_first (T:=sIs Sm w1) ho (Region.noSelect_spec hsel) hQ hti (.inr ⟨hL,λ_ h=>h⟩) f listed a w hcl (Region.free_spec ho hfree) hmem (.inl ⟨hw,λw' hw'=>hr w' ?_⟩) hSw' hSw (next v hd)
            cases Sm with
            | none=>simp only[sIs]at hw' hSw';simp only[inS];rw[hw',hSw']
            | some S=>exact hw'
          · exact hY.elim
      · exact wpAnyT_first (T:=λ_=>True) ho (Region.noSelect_spec hsel) hQ hti (.inl λ_=>trivial) f listed a w hcl (Region.free_spec ho hfree) hmem (.inr ⟨hw,rfl⟩) trivial hSw (next undef hN)
    · split at h
      · rename_i hr
        exact⟨λ_=>hK a w hAg h,by rw[hr];simp⟩
      · rename_i rs hne
        refine⟨λh0=>absurd h0 hne,λi hi=>?_⟩
        have h1:=allL_spec h i hi
        obtain⟨_,o,ho,_⟩:=mem_ready.1 hi
        rw[ho]at h1
        simp only at h1
        have hlv':NoTail P ops (listed.setIfInBounds i true) → (live && !tailB P ops i)=true:=λhn=>by
          rw[hlv hn.unset]
          cases ht:tailB P ops i with
          | false=>rfl
          | true=>
            have h0:=(mem_ready.1 hi).1
            have hlt:i<listed.size:=by
              rcases Nat.lt_or_ge i listed.size with h'|h'
              · exact h'
              · simp[Array.getElem?_eq_none h']at h0
            have:=hn i ht
            simp[hlt]at this
        unfold wpOp
        rw[ho]
        simp only
        rcases guardE_sound hf hs h1 with⟨hw,hY⟩|⟨hw,hN⟩
        · rw[if_pos hw]
          refine .inl (opE_sound hY _ _ λv ds w' hKv hds=>?_)
          have hAg':Agree (asgOps ops.toList) (noDefOps ops.toList) a0 ({ a with defers:=ds }.put o.dst v):=by
            have h1:Agree (asgOps ops.toList) (noDefOps ops.toList) a { a with defers:=ds }:=⟨rfl,λ_ _=>rfl,λhn=>hds λc hc=>by
              have hm:o ∈ ops.toList:=List.mem_of_getElem? (l:=ops.toList) (i:=i) (by simpa using ho)
              have:=List.all_eq_true.1 hn o hm
              rw[hc]at this;cases this⟩
            exact(hAg.trans h1).trans (hag o i { a with defers:=ds } v ho)
          have fin:∀Sm',(∀u,sIs Sm' w1 u → sIs Sm w1 u) → (live=true → tailB P ops i=false → sIs Sm' w1 w') → drawE P ops K f (listed.setIfInBounds i true) (live && !tailB P ops i) Sm' (upd (envOf a) o.dst v) ds w' →
              (NoTail P ops (listed.setIfInBounds i true) → sIs Sm w1 w') ∧ wpAnyT P ops Q (sIs Sm w1) f (listed.setIfInBounds i true) ({ a with defers:=ds }.put o.dst v) w':=λSm' hsub hS' hd=>by
            have hS2:(live && !tailB P ops i)=true → sIs Sm' w1 w':=λhb=>by
              simp only[Bool.and_eq_true,Bool.not_eq_true']at hb
              exact hS' hb.1 hb.2
            exact⟨λhn=>hsub _ (hS2 (hlv' hn)),wpAnyT_mono hsub _ _ _ _ (ih _ _ Sm' _ w' (by rw[Act.put_size];exact hs) (hcl.set hi) hlv' hS2 hAg' (by rw[envOf_put (a:={ a with defers:=ds }) (hput o i { a with defers:=ds } ho hs),Act.put_def];exact hd))⟩
          unfold midE at hKv
          split at hKv
          · rename_i ht
            refine fin Sm (λ_ h=>h) (λ_ h=>by rw[ht]at h;cases h) ?_
            simpa[ht] using hKv
          · rename_i ht
            split at hKv
            · exact hKv.elim
            · rename_i S hSm
              split at hKv
              · split at hKv
                · refine fin _ (λ_ h=>h) (λ_ _=>hKv.1) ?_
                  simpa[ht] using hKv.2
                · obtain⟨S',h1,h2,h3⟩:=hKv
                  refine fin (some S') h2 (λ_ _=>h1) ?_
                  simpa[ht] using h3
              · refine fin _ (λ_ h=>h) (λh=>by cases h) ?_
                simpa[ht] using hKv
        · rw[if_neg (by rw[hw];simp)]
          have hS2:(live && !tailB P ops i)=true → sIs Sm w1 w:=λhb=>by
            simp only[Bool.and_eq_true]at hb
            exact hS hb.1
          exact⟨λhn=>hS2 (hlv' hn),ih _ _ Sm _ w (by rw[Act.put_size];exact hs) (hcl.set hi) hlv' hS2 (hAg.trans (hag o i a undef ho)) (by rw[envOf_put (hput o i a ho hs),Act.put_def];exact hN)⟩
/-- All operations that change memory wait for all reads. -/
def allTail(P:Program)(ops:Array Oper):Bool:=(List.range ops.size).all λi=>match ops[i]? with
  | some o=>isPk P o || isLk P o || tailB P ops i
  | none=>true
def drawnE(P:Program)(ops:Array Oper)(K:EP):EP:=λρ ds w=>
  match P.follows .mixedOrders && Region.noSelect ops with
  | true=>match allTail P ops with
    | true=>drawE P ops K ops.size (Array.replicate ops.size false) true none ρ ds w.drew
    | false=>∃S:World → Prop,S w.drew ∧ drawE P ops K ops.size (Array.replicate ops.size false) true (some S) ρ ds w.drew
  | false=>False
theorem drawnE_sound {n id:Nat} {ops:Array Oper} (hf:fitsOps n ops=true) {K:EP} {Q:Exit → Act → World → Prop} (hQ:∀c a w,¬Q (.panic c) a w) {a:Act} {w:World} (hs:a.tmps.size=n)
    (hK:∀a' w',Agree (asgOps ops.toList) (noDefOps ops.toList) a a' → K (envOf a') a'.defers w' → Q .normal a' w') (h:drawnE P ops K (envOf a) a.defers w):(Code.region id ops true).wp P Q a w:=by
  unfold drawnE at h
  split at h
  case h_2=>exact h.elim
  rename_i hb
  simp only[Bool.and_eq_true]at hb
  have hcl:Closed ops (Array.replicate ops.size false):=λj oj _ hl=>by
    exfalso
    rcases Nat.lt_or_ge j ops.size with h|h
    · simp[h]at hl
    · simp[h]at hl
  have key:∀Sm,sIs Sm w.drew w.drew → drawE P ops K ops.size (Array.replicate ops.size false) true Sm (envOf a) a.defers w.drew → (Code.region id ops true).wp P Q a w:=λSm hS h=>
    wp_region_any hb.1 (wpAny_of_T _ _ _ _ (drawE_sound hf hb.2 hQ a hK _ _ true Sm a w.drew hs hcl (λ_=>rfl) (λ_=>hS) (Agree.refl _ _ _) h))
  split at h
  · exact key none rfl h
  · obtain⟨S,hS,h⟩:=h
    exact key (some S) hS h
end Go.Sh
