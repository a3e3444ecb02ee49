import Derived.Test.YtjbfehippchniaaGreatDoorShEight
/- Plans: how a function's code is walked, piece by piece, as one term; each piece's printed text is held against the code by the kernel. For every program. -/
set_option linter.unusedVariables false
namespace Go.Sh
variable {P : Program} {X Y Z : Type}
def Ty.T:Ty → Type
  | .int _=>Int
  | .bool=>Bool
  | .str=>ByteArray
  | .ptr=>Option Addr
  | .slice=>SV
  | .map=>Option Nat
  | .any=>Value
def Ty.val:(t:Ty) → t.T → Value
  | .int k,(n:Int)=>.int k n
  | .bool,(b:Bool)=>.bool b
  | .str,(s:ByteArray)=>.string s
  | .ptr,(p:Option Addr)=>.pointer p
  | .slice,(s:SV)=>.slice s.a s.len s.cap
  | .map,(m:Option Nat)=>.map m
  | .any,(v:Value)=>v
def Ty.take:(t:Ty) → Value → (t.T → Prop) → Prop
  | .int k,v,K=>dInt k v K
  | .bool,v,K=>dBl v K
  | .str,v,K=>dStr v K
  | .ptr,v,K=>dPtr v K
  | .slice,v,K=>dSl v K
  | .map,v,K=>dMap v K
  | .any,v,K=>K v
theorem Ty.take_elim:{t:Ty} → {v:Value} → {K:t.T → Prop} → t.take v K → ∃x,v=t.val x ∧ K x
  | .int k,v,K,h=>dInt_elim (K:=K) h
  | .bool,v,K,h=>dBl_elim (K:=K) h
  | .str,v,K,h=>dStr_elim (K:=K) h
  | .ptr,v,K,h=>dPtr_elim (K:=K) h
  | .slice,v,K,h=>dSl_elim (K:=K) h
  | .map,v,K,h=>dMap_elim (K:=K) h
  | .any,v,K,h=>⟨v,rfl,h⟩
abbrev Slot:=Nat × Shp
def FnT:List Ty → Type → Type
  | [],X=>X
  | t :: ts,X=>t.T → FnT ts X
def Shp.F:Shp → Type → Type
  | .one t,X=>t.T → X
  | .agg ts,X=>FnT ts X
  | .row _,X=>Array Value → X
def Fn:List Slot → Type → Type
  | [],X=>X
  | s :: l,X=>s.2.F (Fn l X)
def takeL:(ts:List Ty) → List Value → FnT ts X → (X → Prop) → Prop
  | [],l,F,K=>dNil l (K F)
  | t :: ts,l,F,K=>dHd l λv l=>t.take v λx=>takeL ts l (F x) K
def Shp.take:(s:Shp) → Value → s.F X → (X → Prop) → Prop
  | .one t,v,F,K=>Ty.take t v λx=>K (F x)
  | .agg ts,v,F,K=>dAgg v λl=>takeL ts l F K
  | .row _,v,F,K=>dRow v λcs=>K (F cs)
def takeS:(l:List Slot) → Env → Fn l X → (X → Prop) → Prop
  | [],_,F,K=>K F
  | s :: l,ρ,F,K=>Shp.take s.2 (ρ s.1) F λF=>takeS l ρ F K
def curL:(ts:List Ty) → (List Value → X) → FnT ts X
  | [],H=>H []
  | t :: ts,H=>λx=>curL ts λvs=>H (t.val x :: vs)
def Shp.cur:(s:Shp) → (Value → X) → s.F X
  | .one t,H=>λx=>H (t.val x)
  | .agg ts,H=>curL ts λvs=>H (.agg vs.toArray)
  | .row _,H=>λcs=>H (.agg cs)
def cur:(l:List Slot) → (Env → X) → Env → Fn l X
  | [],G,ρ=>G ρ
  | s :: l,G,ρ=>Shp.cur s.2 λv=>cur l G (upd1 ρ s.1 v)
theorem takeL_cur:∀{ts:List Ty} {l:List Value} {H:List Value → X} {K:X → Prop},takeL ts l (curL ts H) K → K (H l)
  | [],l,H,K,h=>by
    have h:dNil l (K (H [])):=h
    obtain⟨rfl,g1⟩:=dNil_elim h;replace h:=g1;exact h
  | t :: ts,l,H,K,h=>by
    have h:dHd l λv l=>t.take v λx=>takeL ts l (curL ts λvs=>H (t.val x :: vs)) K:=h
    obtain⟨v,r,rfl,g2⟩:=dHd_elim h;replace h:=g2
    obtain⟨x,rfl,g3⟩:=Ty.take_elim h;replace h:=g3
    exact takeL_cur (ts:=ts) (H:=λvs=>H (t.val x :: vs)) h
theorem Shp.take_cur {s:Shp} {v:Value} {H:Value → X} {K:X → Prop} (h:Shp.take s v (s.cur H) K):K (H v):=by
  cases s with
  | one t=>
    have h:Ty.take t v λx=>K (H (t.val x)):=h
    obtain⟨x,rfl,g4⟩:=Ty.take_elim h;replace h:=g4;exact h
  | agg ts=>
    have h:dAgg v λl=>takeL ts l (curL ts λvs=>H (.agg vs.toArray)) K:=h
    obtain⟨l,rfl,g5⟩:=dAgg_elim h;replace h:=g5;exact takeL_cur (H:=λvs=>H (.agg vs.toArray)) h
  | row n=>
    have h:dRow v λcs=>K (H (.agg cs)):=h
    obtain⟨cs,rfl,g6⟩:=dRow_elim h;replace h:=g6;exact h
theorem Ty.take_val{t:Ty}{x:t.T}{K:t.T → Prop}(h:K x):t.take (t.val x) K:=by
  cases t with
  | int k=>
    show dInt k (.int k x) K
    unfold dInt;simp only[decide_true];exact h
  | _=>exact h
theorem take_cur:∀{l:List Slot} {ρ:Env} {G:Env → X} {K:X → Prop},takeS l ρ (cur l G ρ) K → K (G ρ)
  | [],_,_,_,h=>h
  | s :: l,ρ,G,K,h=>by
    have h1:=Shp.take_cur (H:=λv=>cur l G (upd1 ρ s.1 v)) (K:=λF=>takeS l ρ F K) h
    rw[upd1_same rfl]at h1
    exact take_cur h1
theorem takeS_congr:∀{l:List Slot} {ρ ρ':Env} {F:Fn l X} {K:X → Prop},(∀s ∈ l,ρ s.1=ρ' s.1) → takeS l ρ F K → takeS l ρ' F K
  | [],_,_,_,_,_,h=>h
  | s :: l,ρ,ρ',F,K,he,h=>by
    have h:Shp.take s.2 (ρ s.1) F λF=>takeS l ρ F K:=h
    show Shp.take s.2 (ρ' s.1) F λF=>takeS l ρ' F K
    rw[he s (by simp)]at h
    have hl:∀F':Fn l X,takeS l ρ F' K → takeS l ρ' F' K:=λF'=>takeS_congr λs' hs=>he s' (by simp[hs])
    clear he
    obtain⟨t,sh⟩:=s
    have mono:∀(ts:List Ty) (vs:List Value) (F:FnT ts (Fn l X)),takeL ts vs F (λF=>takeS l ρ F K) → takeL ts vs F (λF=>takeS l ρ' F K):=by
      intro ts
      induction ts with
      | nil=>
        intro vs F h
        have h:dNil vs (takeS l ρ F K):=h
        obtain⟨rfl,g7⟩:=dNil_elim h;replace h:=g7;exact hl _ h
      | cons ty ts ih=>
        intro vs F h
        have h:dHd vs λv r=>ty.take v λx=>takeL ts r (F x) λF=>takeS l ρ F K:=h
        obtain⟨v,r,rfl,g8⟩:=dHd_elim h;replace h:=g8
        obtain⟨x,rfl,g9⟩:=Ty.take_elim h;replace h:=g9
        exact Ty.take_val (K:=λx=>takeL ts r (F x) λF=>takeS l ρ' F K) (ih r (F x) h)
    cases sh with
    | one ty=>
      have h:Ty.take ty (ρ' t) λx=>takeS l ρ (F x) K:=h
      show Ty.take ty (ρ' t) λx=>takeS l ρ' (F x) K
      obtain⟨x,hx,h⟩:=Ty.take_elim h
      rw[hx]
      exact Ty.take_val (K:=λx=>takeS l ρ' (F x) K) (hl (F x) h)
    | agg ts=>
      have h:dAgg (ρ' t) λvs=>takeL ts vs F λF=>takeS l ρ F K:=h
      obtain⟨vs,hv,h⟩:=dAgg_elim h
      show dAgg (ρ' t) λvs=>takeL ts vs F λF=>takeS l ρ' F K
      rw[hv]
      exact mono ts vs F h
    | row n=>
      have h:dRow (ρ' t) λcs=>takeS l ρ (F cs) K:=h
      obtain⟨cs,hv,h⟩:=dRow_elim h
      show dRow (ρ' t) λcs=>takeS l ρ' (F cs) K
      rw[hv]
      exact hl _ h
def consT:List Ty → Type → Type
  | [],X=>X
  | t :: ts,X=>t.T × consT ts X
def lastT:List Ty → Type
  | []=>Unit
  | [t]=>t.T
  | t :: u :: ts=>t.T × lastT (u :: ts)
def Shp.cons:Shp → Type → Type
  | .one t,X=>t.T × X
  | .agg ts,X=>consT ts X
  | .row _,X=>Array Value × X
def Shp.last:Shp → Type
  | .one t=>t.T
  | .agg ts=>lastT ts
  | .row _=>Array Value
def Tup:List Slot → Type
  | []=>Unit
  | [s]=>s.2.last
  | s :: u :: l=>s.2.cons (Tup (u :: l))
def unConsT:(ts:List Ty) → consT ts X → FnT ts Y → X × Y
  | [],r,F=>(r,F)
  | _ :: ts,p,F=>unConsT ts p.2 (F p.1)
def unLastT:(ts:List Ty) → lastT ts → FnT ts Y → Y
  | [],_,F=>F
  | [_],x,F=>F x
  | _ :: u :: ts,p,F=>unLastT (u :: ts) p.2 (F p.1)
def Shp.unCons:(s:Shp) → s.cons X → s.F Y → X × Y
  | .one _,p,F=>(p.2,F p.1)
  | .agg ts,p,F=>unConsT ts p F
  | .row _,p,F=>(p.2,F p.1)
def Shp.unLast:(s:Shp) → s.last → s.F Y → Y
  | .one _,x,F=>F x
  | .agg ts,x,F=>unLastT ts x F
  | .row _,x,F=>F x
def unT:(V:List Slot) → Tup V → Fn V X → X
  | [],_,F=>F
  | [s],x,F=>Shp.unLast s.2 x F
  | s :: u :: l,x,F=>unT (u :: l) (Shp.unCons s.2 x F).1 (Shp.unCons s.2 x F).2
def mkConsT:(ts:List Ty) → ((Y → consT ts Y) → Z) → FnT ts Z
  | [],H=>H λy=>y
  | _ :: ts,H=>λx=>mkConsT ts λg=>H λy=>(x,g y)
def mkLastT:(ts:List Ty) → (lastT ts → Z) → FnT ts Z
  | [],H=>H ()
  | [_],H=>λx=>H x
  | _ :: u :: ts,H=>λx=>mkLastT (u :: ts) λr=>H (x,r)
def Shp.mkCons:(s:Shp) → ((Y → s.cons Y) → Z) → s.F Z
  | .one _,H=>λx=>H λy=>(x,y)
  | .agg ts,H=>mkConsT ts H
  | .row _,H=>λx=>H λy=>(x,y)
def Shp.mkLast:(s:Shp) → (s.last → Z) → s.F Z
  | .one _,H=>λx=>H x
  | .agg ts,H=>mkLastT ts H
  | .row _,H=>λx=>H x
def mkT:(V:List Slot) → (Tup V → X) → Fn V X
  | [],k=>k ()
  | [s],k=>Shp.mkLast s.2 k
  | s :: u :: l,k=>Shp.mkCons s.2 λg=>mkT (u :: l) λr=>k (g r)
/-- The environment in which a loop's state stands. -/
def setV(V:List Slot)(s:Tup V)(ρ:Env):Env:=unT V s (cur V (λρ=>ρ) ρ)
theorem unConsT_cur:∀{ts:List Ty} {p:consT ts X},∃vs,∀{Y:Type} {H:List Value → Y},unConsT ts p (curL ts H)=((unConsT ts p (curL ts λ_=>())).1,H vs)
  | [],p=>⟨[],rfl⟩
  | t :: ts,p=>by
    obtain⟨vs,h⟩:=unConsT_cur (ts:=ts) (p:=p.2)
    exact⟨t.val p.1 :: vs,λ{Y H}=>h (H:=λvs=>H (t.val p.1 :: vs))⟩
theorem unLastT_cur:∀{ts:List Ty} {p:lastT ts},∃vs,∀{Y:Type} {H:List Value → Y},unLastT ts p (curL ts H)=H vs
  | [],p=>⟨[],rfl⟩
  | [t],x=>⟨[t.val x],rfl⟩
  | t :: u :: ts,p=>by
    obtain⟨vs,h⟩:=unLastT_cur (ts:=u :: ts) (p:=p.2)
    exact⟨t.val p.1 :: vs,λ{Y H}=>h (H:=λvs=>H (t.val p.1 :: vs))⟩
theorem unCons_cur{s:Shp}{p:s.cons X}:∃r v,∀{Y:Type} {H:Value → Y},s.unCons p (s.cur H)=(r,H v):=by
  cases s with
  | one t=>exact⟨p.2,t.val p.1,rfl⟩
  | agg ts=>obtain⟨vs,h⟩:=unConsT_cur (ts:=ts) (p:=p);exact⟨_,.agg vs.toArray,h⟩
  | row n=>exact⟨p.2,.agg p.1,rfl⟩
theorem unLast_cur{s:Shp}{p:s.last}:∃v,∀{Y:Type} {H:Value → Y},s.unLast p (s.cur H)=H v:=by
  cases s with
  | one t=>exact⟨t.val p,rfl⟩
  | agg ts=>obtain⟨vs,h⟩:=unLastT_cur (ts:=ts) (p:=p);exact⟨.agg vs.toArray,h⟩
  | row n=>exact⟨.agg p,rfl⟩
theorem un_cur:∀{V:List Slot} {s:Tup V} {X:Type} {G:Env → X} {ρ:Env},unT V s (cur V G ρ)=G (setV V s ρ)
  | [],_,_,_,_=>rfl
  | [s],x,X,G,ρ=>by
    obtain⟨v,h⟩:=unLast_cur (s:=s.2) (p:=x)
    show s.2.unLast x (s.2.cur λv=>G (upd1 ρ s.1 v))=G (s.2.unLast x (s.2.cur λv=>upd1 ρ s.1 v))
    rw[h,h]
  | s :: u :: l,x,X,G,ρ=>by
    obtain⟨r,v,h⟩:=unCons_cur (s:=s.2) (p:=x)
    show unT (u :: l) (s.2.unCons x (s.2.cur λv=>cur (u :: l) G (upd1 ρ s.1 v))).1 (s.2.unCons x (s.2.cur λv=>cur (u :: l) G (upd1 ρ s.1 v))).2=G (unT (u :: l) (s.2.unCons x (s.2.cur λv=>cur (u :: l) (λρ=>ρ) (upd1 ρ s.1 v))).1 (s.2.unCons x (s.2.cur λv=>cur (u :: l) (λρ=>ρ) (upd1 ρ s.1 v))).2)
    rw[h,h]
    exact un_cur (V:=u :: l)
theorem setV_congr:∀{V:List Slot} {s:Tup V} {ρ ρ':Env} {t:Nat},(t ∈ V.map Prod.fst∨ρ t=ρ' t) → setV V s ρ t=setV V s ρ' t
  | [],_,_,_,_,h=>h.elim (λh=>by cases h) id
  | [s],x,ρ,ρ',t,h=>by
    obtain⟨v,hv⟩:=unLast_cur (s:=s.2) (p:=x)
    show s.2.unLast x (s.2.cur λv=>upd1 ρ s.1 v) t=s.2.unLast x (s.2.cur λv=>upd1 ρ' s.1 v) t
    rw[hv,hv]
    unfold upd1
    cases hb:Nat.beq t s.1 with
    | true=>rfl
    | false=>
      rcases h with h|h
      · simp only[List.map_cons,List.map_nil,List.mem_singleton]at h
        rw[h,Nat.beq_refl]at hb;cases hb
      · exact h
  | s :: u :: l,x,ρ,ρ',t,h=>by
    obtain⟨r,v,hv⟩:=unCons_cur (s:=s.2) (p:=x)
    show unT (u :: l) (s.2.unCons x (s.2.cur λv=>cur (u :: l) (λρ=>ρ) (upd1 ρ s.1 v))).1 (s.2.unCons x (s.2.cur λv=>cur (u :: l) (λρ=>ρ) (upd1 ρ s.1 v))).2 t=unT (u :: l) (s.2.unCons x (s.2.cur λv=>cur (u :: l) (λρ=>ρ) (upd1 ρ' s.1 v))).1 (s.2.unCons x (s.2.cur λv=>cur (u :: l) (λρ=>ρ) (upd1 ρ' s.1 v))).2 t
    rw[hv,hv]
    refine setV_congr (V:=u :: l) (s:=r) (ρ:=upd1 ρ s.1 v) (ρ':=upd1 ρ' s.1 v) ?_
    unfold upd1
    cases hb:Nat.beq t s.1 with
    | true=>exact .inr rfl
    | false=>
      rcases h with h|h
      · rw[List.map_cons,List.mem_cons]at h
        rcases h with h|h
        · rw[h,Nat.beq_refl]at hb;cases hb
        · exact .inl h
      · exact .inr h
theorem mkConsT_take:∀{ts:List Ty} {l:List Value} {H:(X → consT ts X) → Z} {K:Z → Prop},takeL ts l (mkConsT ts H) K → ∃g:X → consT ts X,K (H g) ∧ ∀x {Y:Type} {G:List Value → Y},unConsT ts (g x) (curL ts G)=(x,G l)
  | [],l,H,K,h=>by
    have h:dNil l (K (H λy=>y)):=h
    obtain⟨rfl,g10⟩:=dNil_elim h;replace h:=g10;exact⟨_,h,λx=>rfl⟩
  | t :: ts,l,H,K,h=>by
    have h:dHd l λv l=>t.take v λx=>takeL ts l (mkConsT ts λg=>H λy=>(x,g y)) K:=h
    obtain⟨v,r,rfl,g11⟩:=dHd_elim h;replace h:=g11
    obtain⟨x,rfl,g12⟩:=Ty.take_elim h;replace h:=g12
    obtain⟨g,h1,h2⟩:=mkConsT_take (ts:=ts) (H:=λg=>H λy=>(x,g y)) h
    exact⟨_,h1,λy {Y G}=>h2 y (G:=λvs=>G (t.val x :: vs))⟩
theorem mkLastT_take:∀{ts:List Ty} {l:List Value} {H:lastT ts → Z} {K:Z → Prop},takeL ts l (mkLastT ts H) K → ∃g:lastT ts,K (H g) ∧ ∀{Y:Type} {G:List Value → Y},unLastT ts g (curL ts G)=G l
  | [],l,H,K,h=>by
    have h:dNil l (K (H ())):=h
    obtain⟨rfl,g13⟩:=dNil_elim h;replace h:=g13;exact⟨(),h,rfl⟩
  | [t],l,H,K,h=>by
    have h:dHd l λv l=>t.take v λx=>dNil l (K (H x)):=h
    obtain⟨v,r,rfl,g14⟩:=dHd_elim h;replace h:=g14
    obtain⟨x,rfl,g15⟩:=Ty.take_elim h;replace h:=g15
    obtain⟨rfl,g16⟩:=dNil_elim h;replace h:=g16
    exact⟨x,h,rfl⟩
  | t :: u :: ts,l,H,K,h=>by
    have h:dHd l λv l=>t.take v λx=>takeL (u :: ts) l (mkLastT (u :: ts) λr=>H (x,r)) K:=h
    obtain⟨v,r,rfl,g17⟩:=dHd_elim h;replace h:=g17
    obtain⟨x,rfl,g18⟩:=Ty.take_elim h;replace h:=g18
    obtain⟨g,h1,h2⟩:=mkLastT_take (ts:=u :: ts) (H:=λr=>H (x,r)) h
    exact⟨_,h1,λ{Y G}=>h2 (G:=λvs=>G (t.val x :: vs))⟩
theorem mkCons_take {s:Shp} {v:Value} {H:(X → s.cons X) → Z} {K:Z → Prop} (h:Shp.take s v (s.mkCons H) K):∃g:X → s.cons X,K (H g) ∧ ∀x {Y:Type} {G:Value → Y},s.unCons (g x) (s.cur G)=(x,G v):=by
  cases s with
  | one t=>
    have h:Ty.take t v λx=>K (H λy=>(x,y)):=h
    obtain⟨x,rfl,g19⟩:=Ty.take_elim h;replace h:=g19;exact⟨_,h,λy=>rfl⟩
  | agg ts=>
    have h:dAgg v λl=>takeL ts l (mkConsT ts H) K:=h
    obtain⟨l,rfl,g20⟩:=dAgg_elim h;replace h:=g20
    obtain⟨g,h1,h2⟩:=mkConsT_take h;exact⟨g,h1,λx {Y G}=>h2 x (G:=λvs=>G (.agg vs.toArray))⟩
  | row n=>
    have h:dRow v λx=>K (H λy=>(x,y)):=h
    obtain⟨cs,rfl,g21⟩:=dRow_elim h;replace h:=g21;exact⟨_,h,λy=>rfl⟩
theorem mkLast_take {s:Shp} {v:Value} {H:s.last → Z} {K:Z → Prop} (h:Shp.take s v (s.mkLast H) K):∃g:s.last,K (H g) ∧ ∀{Y:Type} {G:Value → Y},s.unLast g (s.cur G)=G v:=by
  cases s with
  | one t=>
    have h:Ty.take t v λx=>K (H x):=h
    obtain⟨x,rfl,g22⟩:=Ty.take_elim h;replace h:=g22;exact⟨_,h,rfl⟩
  | agg ts=>
    have h:dAgg v λl=>takeL ts l (mkLastT ts H) K:=h
    obtain⟨l,rfl,g23⟩:=dAgg_elim h;replace h:=g23
    obtain⟨g,h1,h2⟩:=mkLastT_take h;exact⟨g,h1,λ{Y G}=>h2 (G:=λvs=>G (.agg vs.toArray))⟩
  | row n=>
    have h:dRow v λx=>K (H x):=h
    obtain⟨cs,rfl,g24⟩:=dRow_elim h;replace h:=g24;exact⟨_,h,rfl⟩
theorem mkT_take:∀{V:List Slot} {ρ:Env} {X:Type} {k:Tup V → X} {K:X → Prop},takeS V ρ (mkT V k) K → ∃s,setV V s ρ=ρ ∧ K (k s)
  | [],ρ,X,k,K,h=>⟨(),rfl,h⟩
  | [s],ρ,X,k,K,h=>by
    obtain⟨g,h1,h2⟩:=mkLast_take (s:=s.2) (K:=K) h
    refine⟨g,?_,h1⟩
    show s.2.unLast g (s.2.cur λv=>upd1 ρ s.1 v)=ρ
    rw[h2];exact upd1_same rfl
  | s :: u :: l,ρ,X,k,K,h=>by
    obtain⟨g,h1,h2⟩:=mkCons_take (s:=s.2) (K:=λF=>takeS (u :: l) ρ F K) h
    obtain⟨r,h3,h4⟩:=mkT_take (V:=u :: l) h1
    refine⟨g r,?_,h4⟩
    show unT (u :: l) (s.2.unCons (g r) (s.2.cur λv=>cur (u :: l) (λρ=>ρ) (upd1 ρ s.1 v))).1 (s.2.unCons (g r) (s.2.cur λv=>cur (u :: l) (λρ=>ρ) (upd1 ρ s.1 v))).2=ρ
    rw[h2,upd1_same rfl]
    exact h3
abbrev DW:=Ds → World → Prop
def hdC:List Code → Code
  | []=>.skip
  | c :: _=>c
/-- What is asked behind a piece: the text of the next one, with its slots. -/
def Kof(l:List Slot)(F:Fn l DW):EP:=λρ ds w=>takeS l ρ F λ(p:DW)=>p ds w
def POk(P:Program)(n:Nat)(items:List Code)(Q:EQ)(l:List Slot)(F:Fn l DW):Prop:=
  fitsL n items=true → ∀ρ ds w,Kof l F ρ ds w → TrL P n items Q ρ ds w
def Rest(P:Program)(n:Nat)(items:List Code)(Q:EQ)(K:EP):Prop:=
  fitsL n items=true → ∀ρ ds w,K ρ ds w → TrL P n items Q ρ ds w
variable {n : Nat} {items : List Code} {Q : EQ} {l : List Slot} {F : Fn l DW} {K : EP}
theorem Kof_eq{ρ:Env}{ds:Ds}{w:World}{G:EP}(e:∀ρ,F=cur l G ρ)(h:Kof l F ρ ds w):G ρ ds w:=by
  have h:takeS l ρ F λ(p:DW)=>p ds w:=h
  rw[e ρ]at h
  exact take_cur (K:=λ(p:DW)=>p ds w) h
theorem rnil(h:items.isEmpty=true:=by kernel_rfl):Rest P n items Q (Q .normal):=λ_ ρ ds w hK=>by
  cases items with
  | nil=>exact hK
  | cons c cs=>cases h
theorem rest(l:List Slot)(F:Fn l DW)(h:POk P n items Q l F):Rest P n items Q (Kof l F):=h
theorem fitsL_append {a b:List Code} (h:fitsL n (a ++ b)=true):fitsL n a=true ∧ fitsL n b=true:=by
  simpa[fitsL,List.all_append] using h
theorem fitsL_flat:∀{c:Code},fitsC n c=true → fitsL n (flat c)=true:=by
  intro c
  induction c with
  | seq x y ihx ihy=>
    intro h
    simp only[fitsC,Bool.and_eq_true]at h
    have h1:=ihx h.1
    have h2:=ihy h.2
    show fitsL n (flat x ++ flat y)=true
    simp only[fitsL,List.all_append,Bool.and_eq_true]at h1 h2 ⊢
    exact⟨h1,h2⟩
  | _=>intro h;simp only[flat,fitsL,List.all_cons,List.all_nil,Bool.and_true];exact h
theorem lf (e:∀ρ,F=cur l (ptL P items Q) ρ:=by intro _;kernel_rfl):POk P n items Q l F:=λhf ρ ds w h=>TrL_of_ptL hf (Kof_eq e h)
theorem pc (k:Nat) (hr:Rest P n (items.drop k) Q K) (e:∀ρ,F=cur l (ptL P (items.take k) (thenQ K Q)) ρ:=by intro _;kernel_rfl):POk P n items Q l F:=λhf ρ ds w h=>by
  rw[←List.take_append_drop k items]at hf ⊢
  obtain⟨h1,h2⟩:=fitsL_append hf
  exact TrL_join h1 (Kof_eq e h) λρ' ds' w' _ _ hK=>hr h2 ρ' ds' w' hK
def blkB(id:Nat):Code → Bool
  | .block j _=>Nat.beq j id
  | _=>false
def scpB:Code → Bool
  | .scope _=>true
  | _=>false
def cndB(t:Nat):Code → Bool
  | .cond (.tmp u) _ _=>Nat.beq u t
  | _=>false
def lpB(c:Code)(V lb:List Slot):Bool:=match c with
  | .loop b=>noDefC b && lb.all λs=>!(asgC b s.1) || V.any λv=>Nat.beq v.1 s.1
  | _=>false
theorem bk (id:Nat) (hr:Rest P n items.tail Q K) (h:POk P n (flat (innerC (hdC items))) (blockQ id (thenQ K Q)) l F) (hb:blkB id (hdC items)=true:=by kernel_rfl):POk P n items Q l F:=λhf ρ ds w hK=>by
  cases items with
  | nil=>cases hb
  | cons c cs=>
    simp only[fitsL,List.all_cons,Bool.and_eq_true]at hf
    cases c with
    | block j b=>
      have hj:=Nat.eq_of_beq_eq_true hb
      subst hj
      exact TrL_head (K:=K) (Tr_block' (c:=b) rfl rfl (h (fitsL_flat (c:=b) hf.1) ρ ds w hK)) λρ' ds' w' hk=>hr hf.2 ρ' ds' w' hk
    | _=>cases hb
theorem sc (hr:Rest P n items.tail Q K) (h:POk P n (flat (innerC (hdC items))) (thenQ K Q) l F) (hb:scpB (hdC items)=true:=by kernel_rfl):POk P n items Q l F:=λhf ρ ds w hK=>by
  cases items with
  | nil=>cases hb
  | cons c cs=>
    simp only[fitsL,List.all_cons,Bool.and_eq_true]at hf
    cases c with
    | scope b=>exact TrL_head (K:=K) (Tr_scope' (c:=b) rfl rfl (h (fitsL_flat (c:=b) hf.1) ρ ds w hK)) λρ' ds' w' hk=>hr hf.2 ρ' ds' w' hk
    | _=>cases hb
theorem cd(t:Nat)(l1:List Slot)(F1:Fn l1 DW)(l2:List Slot)(F2:Fn l2 DW)(hr:Rest P n items.tail Q K)
    (h1:POk P n (flat (thnC (hdC items))) (thenQ K Q) l1 F1) (h2:POk P n (flat (elsC (hdC items))) (thenQ K Q) l2 F2)
    (hb:cndB t (hdC items)=true:=by kernel_rfl) (e:∀ρ,F=cur l (λρ ds w=>dBl (ρ t) λb=>Br b (Kof l1 F1 ρ ds w) (Kof l2 F2 ρ ds w)) ρ:=by intro _;kernel_rfl):POk P n items Q l F:=λhf ρ ds w hK=>by
  cases items with
  | nil=>cases hb
  | cons c cs=>
    simp only[fitsL,List.all_cons,Bool.and_eq_true]at hf
    cases c with
    | cond o x y=>
      cases o with
      | tmp u=>
        have hu:=Nat.eq_of_beq_eq_true hb
        subst hu
        have hf1:=hf.1
        simp only[fitsC,Bool.and_eq_true]at hf1
        obtain⟨b,hv,hB⟩:=dBl_elim (Kof_eq e hK)
        exact TrL_head (K:=K) (Tr_cond' (x:=x) (y:=y) rfl rfl rfl hv (λh=>h1 (fitsL_flat (c:=x) hf1.1) ρ ds w h) (λh=>h2 (fitsL_flat (c:=y) hf1.2) ρ ds w h) hB) λρ' ds' w' hk=>hr hf.2 ρ' ds' w' hk
      | _=>cases hb
    | _=>cases hb
theorem lp (V lb:List Slot) (Fb:(Tup V → World → Prop) → Fn lb DW) (hr:Rest P n items.tail Q K)
    (h:∀J,POk P n (flat (innerC (hdC items))) (thenQ (λρ _ w=>takeS V ρ (mkT V λs=>s) λs=>J s w) (thenQ K Q)) lb (Fb J))
    (hc:lpB (hdC items) V lb=true:=by kernel_rfl) (e:∀ρ,F=cur l (λρ ds w=>takeS V ρ (mkT V λs=>s) λs=>loopT (λJ s w=>unT V s (cur V (λρ=>Kof lb (Fb J) ρ ds w) ρ)) s w) ρ:=by intro _;kernel_rfl):POk P n items Q l F:=λhf ρ ds w hK=>by
  cases items with
  | nil=>cases hc
  | cons c cs=>
    simp only[fitsL,List.all_cons,Bool.and_eq_true]at hf
    cases c with
    | loop b=>
      simp only[hdC,lpB,Bool.and_eq_true]at hc
      obtain⟨hnd,hlb⟩:=hc
      obtain⟨s0,hs0,hL⟩:=mkT_take (Kof_eq e hK)
      refine TrL_head (K:=K) (Tr_loop' (c:=b) (σ:=Tup V) (enc:=λs ρ=>setV V s ρ=ρ) (D:=λρ K=>takeS V ρ (mkT V λs=>s) K) (s0:=s0) rfl rfl hs0 hnd (λρ K h=>mkT_take h) (λJ s ρ' w' he ha hF=>?_) hL) λρ' ds' w' hk=>hr hf.2 ρ' ds' w' hk
      rw[un_cur]at hF
      refine h J (fitsL_flat (c:=b) hf.1) ρ' ds w' (takeS_congr (λt ht=>?_) hF)
      rw[←he]
      refine setV_congr ?_
      have h1:=List.all_eq_true.1 hlb t ht
      simp only[Bool.or_eq_true,Bool.not_eq_true',List.any_eq_true]at h1
      rcases h1 with h1|⟨v,hv,hb⟩
      · exact .inr (ha t.1 h1).symm
      · exact .inl (List.mem_map.2 ⟨v,hv,Nat.eq_of_beq_eq_true hb⟩)
    | _=>cases hc
/-- A function's plan. -/
abbrev Pl(P:Program)(fn:Func)(l:List Slot)(F:Rt → Fn l DW):Prop:=∀R,POk P fn.ntmps (flat (bodyOf fn)) (endQ P fn.results.toList R) l (F R)
def topB(fn:Func)(k:Nat):Bool:=fn.body.isSome && (fitsC fn.ntmps (bodyOf fn) && Nat.ble k fn.ntmps)
theorem topB_spec{fn:Func}{k:Nat}(h:topB fn k=true):fn.body=some (bodyOf fn) ∧ fitsL fn.ntmps (flat (bodyOf fn))=true ∧ k ≤ fn.ntmps:=by
  simp only[topB,Bool.and_eq_true]at h
  refine⟨?_,fitsL_flat h.2.1,Nat.le_of_ble_eq_true h.2.2⟩
  unfold bodyOf
  cases hb:fn.body with
  | none=>rw[hb]at h;cases h.1
  | some c=>rfl
theorem plC {f:FuncId} {fn:Func} {F:Rt → Fn l DW} {args:Array Value} {R:Rt} {w:World} {X:Prop} (h:Pl P fn l F) (hf:P.funcs[f]?=some fn) (hX:X) (hb:topB fn args.size=true:=by kernel_rfl) (e:X=Kof l (F R) (argEnv args.toList) [] w:=by kernel_rfl):Calls P f args w R:=by
  obtain⟨h1,h2,h3⟩:=topB_spec hb
  exact calls_of_L hf h1 h3 rfl (h R h2 _ _ _ (e ▸ hX))
abbrev iS(t:Nat):Slot:=(t,.one (.int .i64))
abbrev kS(k:IntKind)(t:Nat):Slot:=(t,.one (.int k))
abbrev bS(t:Nat):Slot:=(t,.one .bool)
abbrev sS(t:Nat):Slot:=(t,.one .str)
abbrev pS(t:Nat):Slot:=(t,.one .ptr)
abbrev lS(t:Nat):Slot:=(t,.one .slice)
abbrev mS(t:Nat):Slot:=(t,.one .map)
abbrev vS(t:Nat):Slot:=(t,.one .any)
abbrev aS(t:Nat)(ts:List Ty):Slot:=(t,.agg ts)
end Go.Sh
