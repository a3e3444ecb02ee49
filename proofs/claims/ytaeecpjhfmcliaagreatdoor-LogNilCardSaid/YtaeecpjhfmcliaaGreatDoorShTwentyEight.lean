import Derived.Test.YtaeecpjhfmcliaaGreatDoorShEight
/- Plans: how a function's code is walked, piece by piece, as one term; each piece's printed text is held against the code by the kernel. For every program. -/
set_option linter.unusedVariables false
namespace Go.Sh
variable {P : Program} {X Y Z : Type}
def Ty.T:Ty->Type
 | .int _=>Int
 | .bool=>Bool
 | .str=>ByteArray
 | .ptr=>Option Addr
 | .slice=>SV
 | .map=>Option Nat
 | .any=>Value
def Ty.val:(t:Ty)->t.T->Value
 | .int k,(n:Int)=>.int k n
 | .bool,(b:Bool)=>.bool b
 | .str,(s:ByteArray)=>.string s
 | .ptr,(p:Option Addr)=>.pointer p
 | .slice,(s:SV)=>.slice s.a s.len s.cap
 | .map,(m:Option Nat)=>.map m
 | .any,(v:Value)=>v
def Ty.take:(t:Ty)->Value->(t.T->Prop)->Prop
 | .int k,v,K=>yK6 k v K
 | .bool,v,K=>dBl v K
 | .str,v,K=>dStr v K
 | .ptr,v,K=>dPtr v K
 | .slice,v,K=>dSl v K
 | .map,v,K=>dMap v K
 | .any,v,K=>K v
theorem Ty.take_elim:{t:Ty}->{v:Value}->{K:t.T->Prop}->t.take v K->∃x,v=t.val x/\K x
 | .int k,v,K,h=>zYU (K:=K) h
 | .bool,v,K,h=>yZ4 (K:=K) h
 | .str,v,K,h=>yQy (K:=K) h
 | .ptr,v,K,h=>zYW (K:=K) h
 | .slice,v,K,h=>yXY (K:=K) h
 | .map,v,K,h=>yQW (K:=K) h
 | .any,v,K,h=>⟨v,rfl,h⟩
abbrev zK4:=Nat × Shp
def FnT:List Ty->Type->Type
 | [],X=>X
 | t :: ts,X=>t.T->FnT ts X
def Shp.F:Shp->Type->Type
 | .one t,X=>t.T->X
 | .agg ts,X=>FnT ts X
 | .row _,X=>Array Value->X
def Fn:List zK4->Type->Type
 | [],X=>X
 | s :: l,X=>s.2.F (Fn l X)
def zJq:(ts:List Ty)->List Value->FnT ts X->(X->Prop)->Prop
 | [],l,F,K=>yVc l (K F)
 | t :: ts,l,F,K=>dHd l λv l=>t.take v λx=>zJq ts l (F x) K
def Shp.take:(s:Shp)->Value->s.F X->(X->Prop)->Prop
 | .one t,v,F,K=>Ty.take t v λx=>K (F x)
 | .agg ts,v,F,K=>yK8 v λl=>zJq ts l F K
 | .row _,v,F,K=>yVL v λcs=>K (F cs)
def zXA:(l:List zK4)->Env->Fn l X->(X->Prop)->Prop
 | [],_,F,K=>K F
 | s :: l,ρ,F,K=>Shp.take s.2 (ρ s.1) F λF=>zXA l ρ F K
def yVG:(ts:List Ty)->(List Value->X)->FnT ts X
 | [],H=>H []
 | t :: ts,H=>λx=>yVG ts λvs=>H (t.val x :: vs)
def Shp.cur:(s:Shp)->(Value->X)->s.F X
 | .one t,H=>λx=>H (t.val x)
 | .agg ts,H=>yVG ts λvs=>H (.agg vs.toArray)
 | .row _,H=>λcs=>H (.agg cs)
def cur:(l:List zK4)->(Env->X)->Env->Fn l X
 | [],G,ρ=>G ρ
 | s :: l,G,ρ=>Shp.cur s.2 λv=>cur l G (zK0 ρ s.1 v)
theorem yQC:∀{ts:List Ty} {l:List Value} {H:List Value->X} {K:X->Prop},zJq ts l (yVG ts H) K->K (H l)
 | [],l,H,K,h=>by
  have h:yVc l (K (H [])):=h
  obtain⟨rfl,g1⟩:=zZ6 h;replace h:=g1;exact h
 | t :: ts,l,H,K,h=>by
  have h:dHd l λv l=>t.take v λx=>zJq ts l (yVG ts λvs=>H (t.val x :: vs)) K:=h
  obtain⟨v,r,rfl,g2⟩:=zJ3 h;replace h:=g2
  obtain⟨x,rfl,g3⟩:=Ty.take_elim h;replace h:=g3
  exact yQC (ts:=ts) (H:=λvs=>H (t.val x :: vs)) h
theorem Shp.take_cur {s:Shp} {v:Value} {H:Value->X} {K:X->Prop} (h:Shp.take s v (s.cur H) K):K (H v):=by
 cases s with
 | one t=>
  have h:Ty.take t v λx=>K (H (t.val x)):=h
  obtain⟨x,rfl,g4⟩:=Ty.take_elim h;replace h:=g4;exact h
 | agg ts=>
  have h:yK8 v λl=>zJq ts l (yVG ts λvs=>H (.agg vs.toArray)) K:=h
  obtain⟨l,rfl,g5⟩:=zJj h;replace h:=g5;exact yQC (H:=λvs=>H (.agg vs.toArray)) h
 | row n=>
  have h:yVL v λcs=>K (H (.agg cs)):=h
  obtain⟨cs,rfl,g6⟩:=zJe h;replace h:=g6;exact h
theorem Ty.take_val{t:Ty}{x:t.T}{K:t.T->Prop}(h:K x):t.take (t.val x) K:=by
 cases t with
 | int k=>
  show yK6 k (.int k x) K
  unfold yK6;simp only[decide_true];exact h
 | _=>exact h
theorem take_cur:∀{l:List zK4} {ρ:Env} {G:Env->X} {K:X->Prop},zXA l ρ (cur l G ρ) K->K (G ρ)
 | [],_,_,_,h=>h
 | s :: l,ρ,G,K,h=>by
  have h1:=Shp.take_cur (H:=λv=>cur l G (zK0 ρ s.1 v)) (K:=λF=>zXA l ρ F K) h
  rw[zKp rfl]at h1
  exact take_cur h1
theorem zWF:∀{l:List zK4} {ρ ρ':Env} {F:Fn l X} {K:X->Prop},(∀s ∈ l,ρ s.1=ρ' s.1)->zXA l ρ F K->zXA l ρ' F K
 | [],_,_,_,_,_,h=>h
 | s :: l,ρ,ρ',F,K,he,h=>by
  have h:Shp.take s.2 (ρ s.1) F λF=>zXA l ρ F K:=h
  show Shp.take s.2 (ρ' s.1) F λF=>zXA l ρ' F K
  rw[he s (by simp)]at h
  have hl:∀F':Fn l X,zXA l ρ F' K->zXA l ρ' F' K:=λF'=>zWF λs' hs=>he s' (by simp[hs])
  clear he
  obtain⟨t,sh⟩:=s
  have mono:∀(ts:List Ty) (vs:List Value) (F:FnT ts (Fn l X)),zJq ts vs F (λF=>zXA l ρ F K)->zJq ts vs F (λF=>zXA l ρ' F K):=by
   intro ts
   induction ts with
   | nil=>
    intro vs F h
    have h:yVc vs (zXA l ρ F K):=h
    obtain⟨rfl,g7⟩:=zZ6 h;replace h:=g7;exact hl _ h
   | cons ty ts ih=>
    intro vs F h
    have h:dHd vs λv r=>ty.take v λx=>zJq ts r (F x) λF=>zXA l ρ F K:=h
    obtain⟨v,r,rfl,g8⟩:=zJ3 h;replace h:=g8
    obtain⟨x,rfl,g9⟩:=Ty.take_elim h;replace h:=g9
    exact Ty.take_val (K:=λx=>zJq ts r (F x) λF=>zXA l ρ' F K) (ih r (F x) h)
  cases sh with
  | one ty=>
   have h:Ty.take ty (ρ' t) λx=>zXA l ρ (F x) K:=h
   show Ty.take ty (ρ' t) λx=>zXA l ρ' (F x) K
   obtain⟨x,hx,h⟩:=Ty.take_elim h
   rw[hx]
   exact Ty.take_val (K:=λx=>zXA l ρ' (F x) K) (hl (F x) h)
  | agg ts=>
   have h:yK8 (ρ' t) λvs=>zJq ts vs F λF=>zXA l ρ F K:=h
   obtain⟨vs,hv,h⟩:=zJj h
   show yK8 (ρ' t) λvs=>zJq ts vs F λF=>zXA l ρ' F K
   rw[hv]
   exact mono ts vs F h
  | row n=>
   have h:yVL (ρ' t) λcs=>zXA l ρ (F cs) K:=h
   obtain⟨cs,hv,h⟩:=zJe h
   show yVL (ρ' t) λcs=>zXA l ρ' (F cs) K
   rw[hv]
   exact hl _ h
def yXs:List Ty->Type->Type
 | [],X=>X
 | t :: ts,X=>t.T × yXs ts X
def yXy:List Ty->Type
 | []=>Unit
 | [t]=>t.T
 | t :: u :: ts=>t.T × yXy (u :: ts)
def Shp.cons:Shp->Type->Type
 | .one t,X=>t.T × X
 | .agg ts,X=>yXs ts X
 | .row _,X=>Array Value × X
def Shp.last:Shp->Type
 | .one t=>t.T
 | .agg ts=>yXy ts
 | .row _=>Array Value
def Tup:List zK4->Type
 | []=>Unit
 | [s]=>s.2.last
 | s :: u :: l=>s.2.cons (Tup (u :: l))
def zW6:(ts:List Ty)->yXs ts X->FnT ts Y->X × Y
 | [],r,F=>(r,F)
 | _ :: ts,p,F=>zW6 ts p.2 (F p.1)
def zYs:(ts:List Ty)->yXy ts->FnT ts Y->Y
 | [],_,F=>F
 | [_],x,F=>F x
 | _ :: u :: ts,p,F=>zYs (u :: ts) p.2 (F p.1)
def Shp.unCons:(s:Shp)->s.cons X->s.F Y->X × Y
 | .one _,p,F=>(p.2,F p.1)
 | .agg ts,p,F=>zW6 ts p F
 | .row _,p,F=>(p.2,F p.1)
def Shp.unLast:(s:Shp)->s.last->s.F Y->Y
 | .one _,x,F=>F x
 | .agg ts,x,F=>zYs ts x F
 | .row _,x,F=>F x
def unT:(V:List zK4)->Tup V->Fn V X->X
 | [],_,F=>F
 | [s],x,F=>Shp.unLast s.2 x F
 | s :: u :: l,x,F=>unT (u :: l) (Shp.unCons s.2 x F).1 (Shp.unCons s.2 x F).2
def zW7:(ts:List Ty)->((Y->yXs ts Y)->Z)->FnT ts Z
 | [],H=>H λy=>y
 | _ :: ts,H=>λx=>zW7 ts λg=>H λy=>(x,g y)
def zWJ:(ts:List Ty)->(yXy ts->Z)->FnT ts Z
 | [],H=>H ()
 | [_],H=>λx=>H x
 | _ :: u :: ts,H=>λx=>zWJ (u :: ts) λr=>H (x,r)
def Shp.mkCons:(s:Shp)->((Y->s.cons Y)->Z)->s.F Z
 | .one _,H=>λx=>H λy=>(x,y)
 | .agg ts,H=>zW7 ts H
 | .row _,H=>λx=>H λy=>(x,y)
def Shp.mkLast:(s:Shp)->(s.last->Z)->s.F Z
 | .one _,H=>λx=>H x
 | .agg ts,H=>zWJ ts H
 | .row _,H=>λx=>H x
def mkT:(V:List zK4)->(Tup V->X)->Fn V X
 | [],k=>k ()
 | [s],k=>Shp.mkLast s.2 k
 | s :: u :: l,k=>Shp.mkCons s.2 λg=>mkT (u :: l) λr=>k (g r)
def setV(V:List zK4)(s:Tup V)(ρ:Env):Env:=unT V s (cur V (λρ=>ρ) ρ)
theorem zVk:∀{ts:List Ty} {p:yXs ts X},∃vs,∀{Y:Type} {H:List Value->Y},zW6 ts p (yVG ts H)=((zW6 ts p (yVG ts λ_=>())).1,H vs)
 | [],p=>⟨[],rfl⟩
 | t :: ts,p=>by
  obtain⟨vs,h⟩:=zVk (ts:=ts) (p:=p.2)
  exact⟨t.val p.1 :: vs,λ{Y H}=>h (H:=λvs=>H (t.val p.1 :: vs))⟩
theorem zWM:∀{ts:List Ty} {p:yXy ts},∃vs,∀{Y:Type} {H:List Value->Y},zYs ts p (yVG ts H)=H vs
 | [],p=>⟨[],rfl⟩
 | [t],x=>⟨[t.val x],rfl⟩
 | t :: u :: ts,p=>by
  obtain⟨vs,h⟩:=zWM (ts:=u :: ts) (p:=p.2)
  exact⟨t.val p.1 :: vs,λ{Y H}=>h (H:=λvs=>H (t.val p.1 :: vs))⟩
theorem zV8{s:Shp}{p:s.cons X}:∃r v,∀{Y:Type} {H:Value->Y},s.unCons p (s.cur H)=(r,H v):=by
 cases s with
 | one t=>exact⟨p.2,t.val p.1,rfl⟩
 | agg ts=>obtain⟨vs,h⟩:=zVk (ts:=ts) (p:=p);exact⟨_,.agg vs.toArray,h⟩
 | row n=>exact⟨p.2,.agg p.1,rfl⟩
theorem zV2{s:Shp}{p:s.last}:∃v,∀{Y:Type} {H:Value->Y},s.unLast p (s.cur H)=H v:=by
 cases s with
 | one t=>exact⟨t.val p,rfl⟩
 | agg ts=>obtain⟨vs,h⟩:=zWM (ts:=ts) (p:=p);exact⟨.agg vs.toArray,h⟩
 | row n=>exact⟨.agg p,rfl⟩
theorem xQD:∀{V:List zK4} {s:Tup V} {X:Type} {G:Env->X} {ρ:Env},unT V s (cur V G ρ)=G (setV V s ρ)
 | [],_,_,_,_=>rfl
 | [s],x,X,G,ρ=>by
  obtain⟨v,h⟩:=zV2 (s:=s.2) (p:=x)
  show s.2.unLast x (s.2.cur λv=>G (zK0 ρ s.1 v))=G (s.2.unLast x (s.2.cur λv=>zK0 ρ s.1 v))
  rw[h,h]
 | s :: u :: l,x,X,G,ρ=>by
  obtain⟨r,v,h⟩:=zV8 (s:=s.2) (p:=x)
  show unT (u :: l) (s.2.unCons x (s.2.cur λv=>cur (u :: l) G (zK0 ρ s.1 v))).1 (s.2.unCons x (s.2.cur λv=>cur (u :: l) G (zK0 ρ s.1 v))).2=G (unT (u :: l) (s.2.unCons x (s.2.cur λv=>cur (u :: l) (λρ=>ρ) (zK0 ρ s.1 v))).1 (s.2.unCons x (s.2.cur λv=>cur (u :: l) (λρ=>ρ) (zK0 ρ s.1 v))).2)
  rw[h,h]
  exact xQD (V:=u :: l)
theorem zVJ:∀{V:List zK4} {s:Tup V} {ρ ρ':Env} {t:Nat},(t ∈ V.map Prod.fst∨ρ t=ρ' t)->setV V s ρ t=setV V s ρ' t
 | [],_,_,_,_,h=>h.elim (λh=>by cases h) id
 | [s],x,ρ,ρ',t,h=>by
  obtain⟨v,hv⟩:=zV2 (s:=s.2) (p:=x)
  show s.2.unLast x (s.2.cur λv=>zK0 ρ s.1 v) t=s.2.unLast x (s.2.cur λv=>zK0 ρ' s.1 v) t
  rw[hv,hv]
  unfold zK0
  cases hb:Nat.beq t s.1 with
  | true=>rfl
  | false=>
   rcases h with h|h
   ·simp only[List.map_cons,List.map_nil,List.mem_singleton]at h
    rw[h,Nat.beq_refl]at hb;cases hb
   ·exact h
 | s :: u :: l,x,ρ,ρ',t,h=>by
  obtain⟨r,v,hv⟩:=zV8 (s:=s.2) (p:=x)
  show unT (u :: l) (s.2.unCons x (s.2.cur λv=>cur (u :: l) (λρ=>ρ) (zK0 ρ s.1 v))).1 (s.2.unCons x (s.2.cur λv=>cur (u :: l) (λρ=>ρ) (zK0 ρ s.1 v))).2 t=unT (u :: l) (s.2.unCons x (s.2.cur λv=>cur (u :: l) (λρ=>ρ) (zK0 ρ' s.1 v))).1 (s.2.unCons x (s.2.cur λv=>cur (u :: l) (λρ=>ρ) (zK0 ρ' s.1 v))).2 t
  rw[hv,hv]
  refine zVJ (V:=u :: l) (s:=r) (ρ:=zK0 ρ s.1 v) (ρ':=zK0 ρ' s.1 v) ?_
  unfold zK0
  cases hb:Nat.beq t s.1 with
  | true=>exact .inr rfl
  | false=>
   rcases h with h|h
   ·rw[List.map_cons,List.mem_cons]at h
    rcases h with h|h
    ·rw[h,Nat.beq_refl]at hb;cases hb
    ·exact .inl h
   ·exact .inr h
theorem zKX:∀{ts:List Ty} {l:List Value} {H:(X->yXs ts X)->Z} {K:Z->Prop},zJq ts l (zW7 ts H) K->∃g:X->yXs ts X,K (H g)/\∀x {Y:Type} {G:List Value->Y},zW6 ts (g x) (yVG ts G)=(x,G l)
 | [],l,H,K,h=>by
  have h:yVc l (K (H λy=>y)):=h
  obtain⟨rfl,yU⟩:=zZ6 h;replace h:=yU;exact⟨_,h,λx=>rfl⟩
 | t :: ts,l,H,K,h=>by
  have h:dHd l λv l=>t.take v λx=>zJq ts l (zW7 ts λg=>H λy=>(x,g y)) K:=h
  obtain⟨v,r,rfl,yV⟩:=zJ3 h;replace h:=yV
  obtain⟨x,rfl,yW⟩:=Ty.take_elim h;replace h:=yW
  obtain⟨g,h1,h2⟩:=zKX (ts:=ts) (H:=λg=>H λy=>(x,g y)) h
  exact⟨_,h1,λy {Y G}=>h2 y (G:=λvs=>G (t.val x :: vs))⟩
theorem zWa:∀{ts:List Ty} {l:List Value} {H:yXy ts->Z} {K:Z->Prop},zJq ts l (zWJ ts H) K->∃g:yXy ts,K (H g)/\∀{Y:Type} {G:List Value->Y},zYs ts g (yVG ts G)=G l
 | [],l,H,K,h=>by
  have h:yVc l (K (H ())):=h
  obtain⟨rfl,yX⟩:=zZ6 h;replace h:=yX;exact⟨(),h,rfl⟩
 | [t],l,H,K,h=>by
  have h:dHd l λv l=>t.take v λx=>yVc l (K (H x)):=h
  obtain⟨v,r,rfl,yY⟩:=zJ3 h;replace h:=yY
  obtain⟨x,rfl,yZ⟩:=Ty.take_elim h;replace h:=yZ
  obtain⟨rfl,y2⟩:=zZ6 h;replace h:=y2
  exact⟨x,h,rfl⟩
 | t :: u :: ts,l,H,K,h=>by
  have h:dHd l λv l=>t.take v λx=>zJq (u :: ts) l (zWJ (u :: ts) λr=>H (x,r)) K:=h
  obtain⟨v,r,rfl,y3⟩:=zJ3 h;replace h:=y3
  obtain⟨x,rfl,y4⟩:=Ty.take_elim h;replace h:=y4
  obtain⟨g,h1,h2⟩:=zWa (ts:=u :: ts) (H:=λr=>H (x,r)) h
  exact⟨_,h1,λ{Y G}=>h2 (G:=λvs=>G (t.val x :: vs))⟩
theorem yXG {s:Shp} {v:Value} {H:(X->s.cons X)->Z} {K:Z->Prop} (h:Shp.take s v (s.mkCons H) K):∃g:X->s.cons X,K (H g)/\∀x {Y:Type} {G:Value->Y},s.unCons (g x) (s.cur G)=(x,G v):=by
 cases s with
 | one t=>
  have h:Ty.take t v λx=>K (H λy=>(x,y)):=h
  obtain⟨x,rfl,y5⟩:=Ty.take_elim h;replace h:=y5;exact⟨_,h,λy=>rfl⟩
 | agg ts=>
  have h:yK8 v λl=>zJq ts l (zW7 ts H) K:=h
  obtain⟨l,rfl,y6⟩:=zJj h;replace h:=y6
  obtain⟨g,h1,h2⟩:=zKX h;exact⟨g,h1,λx {Y G}=>h2 x (G:=λvs=>G (.agg vs.toArray))⟩
 | row n=>
  have h:yVL v λx=>K (H λy=>(x,y)):=h
  obtain⟨cs,rfl,y7⟩:=zJe h;replace h:=y7;exact⟨_,h,λy=>rfl⟩
theorem yXP {s:Shp} {v:Value} {H:s.last->Z} {K:Z->Prop} (h:Shp.take s v (s.mkLast H) K):∃g:s.last,K (H g)/\∀{Y:Type} {G:Value->Y},s.unLast g (s.cur G)=G v:=by
 cases s with
 | one t=>
  have h:Ty.take t v λx=>K (H x):=h
  obtain⟨x,rfl,y8⟩:=Ty.take_elim h;replace h:=y8;exact⟨_,h,rfl⟩
 | agg ts=>
  have h:yK8 v λl=>zJq ts l (zWJ ts H) K:=h
  obtain⟨l,rfl,za⟩:=zJj h;replace h:=za
  obtain⟨g,h1,h2⟩:=zWa h;exact⟨g,h1,λ{Y G}=>h2 (G:=λvs=>G (.agg vs.toArray))⟩
 | row n=>
  have h:yVL v λx=>K (H x):=h
  obtain⟨cs,rfl,zd⟩:=zJe h;replace h:=zd;exact⟨_,h,rfl⟩
theorem zYh:∀{V:List zK4} {ρ:Env} {X:Type} {k:Tup V->X} {K:X->Prop},zXA V ρ (mkT V k) K->∃s,setV V s ρ=ρ/\K (k s)
 | [],ρ,X,k,K,h=>⟨(),rfl,h⟩
 | [s],ρ,X,k,K,h=>by
  obtain⟨g,h1,h2⟩:=yXP (s:=s.2) (K:=K) h
  refine⟨g,?_,h1⟩
  show s.2.unLast g (s.2.cur λv=>zK0 ρ s.1 v)=ρ
  rw[h2];exact zKp rfl
 | s :: u :: l,ρ,X,k,K,h=>by
  obtain⟨g,h1,h2⟩:=yXG (s:=s.2) (K:=λF=>zXA (u :: l) ρ F K) h
  obtain⟨r,h3,h4⟩:=zYh (V:=u :: l) h1
  refine⟨g r,?_,h4⟩
  show unT (u :: l) (s.2.unCons (g r) (s.2.cur λv=>cur (u :: l) (λρ=>ρ) (zK0 ρ s.1 v))).1 (s.2.unCons (g r) (s.2.cur λv=>cur (u :: l) (λρ=>ρ) (zK0 ρ s.1 v))).2=ρ
  rw[h2,zKp rfl]
  exact h3
abbrev DW:=Ds->World->Prop
def hdC:List Code->Code
 | []=>.skip
 | c :: _=>c
def Kof(l:List zK4)(F:Fn l DW):EP:=λρ ds w=>zXA l ρ F λ(p:DW)=>p ds w
def POk(P:Program)(n:Nat)(items:List Code)(Q:EQ)(l:List zK4)(F:Fn l DW):Prop:=
 zJG n items=true->∀ρ ds w,Kof l F ρ ds w->TrL P n items Q ρ ds w
def Rest(P:Program)(n:Nat)(items:List Code)(Q:EQ)(K:EP):Prop:=
 zJG n items=true->∀ρ ds w,K ρ ds w->TrL P n items Q ρ ds w
variable {n : Nat} {items : List Code} {Q : EQ} {l : List zK4} {F : Fn l DW} {K : EP}
theorem yVb{ρ:Env}{ds:Ds}{w:World}{G:EP}(e:∀ρ,F=cur l G ρ)(h:Kof l F ρ ds w):G ρ ds w:=by
 have h:zXA l ρ F λ(p:DW)=>p ds w:=h
 rw[e ρ]at h
 exact take_cur (K:=λ(p:DW)=>p ds w) h
theorem zZU(h:items.isEmpty=true:=by kernel_rfl):Rest P n items Q (Q .normal):=λ_ ρ ds w hK=>by
 cases items with
 | nil=>exact hK
 | cons c cs=>cases h
theorem rest(l:List zK4)(F:Fn l DW)(h:POk P n items Q l F):Rest P n items Q (Kof l F):=h
theorem yQh {a b:List Code} (h:zJG n (a ++ b)=true):zJG n a=true/\zJG n b=true:=by
 simpa[zJG,List.all_append] using h
theorem zKF:∀{c:Code},zKw n c=true->zJG n (zVp c)=true:=by
 intro c
 induction c with
 | seq x y ihx ihy=>
  intro h
  simp only[zKw,Bool.and_eq_true]at h
  have h1:=ihx h.1
  have h2:=ihy h.2
  show zJG n (zVp x ++ zVp y)=true
  simp only[zJG,List.all_append,Bool.and_eq_true]at h1 h2 ⊢
  exact⟨h1,h2⟩
 | _=>intro h;simp only[zVp,zJG,List.all_cons,List.all_nil,Bool.and_true];exact h
theorem lf (e:∀ρ,F=cur l (ptL P items Q) ρ:=by intro _;kernel_rfl):POk P n items Q l F:=λhf ρ ds w h=>zKK hf (yVb e h)
theorem pc (k:Nat) (hr:Rest P n (items.drop k) Q K) (e:∀ρ,F=cur l (ptL P (items.take k) (zJT K Q)) ρ:=by intro _;kernel_rfl):POk P n items Q l F:=λhf ρ ds w h=>by
 rw[←List.take_append_drop k items]at hf ⊢
 obtain⟨h1,h2⟩:=yQh hf
 exact yYq h1 (yVb e h) λρ' ds' w' _ _ hK=>hr h2 ρ' ds' w' hK
def blkB(id:Nat):Code->Bool
 | .block j _=>Nat.beq j id
 | _=>false
def lpB(c:Code)(V lb:List zK4):Bool:=match c with
 | .loop b=>zXc b && lb.all λs=>!(zW5 b s.1) || V.any λv=>Nat.beq v.1 s.1
 | _=>false
theorem bk (id:Nat) (hr:Rest P n items.tail Q K) (h:POk P n (zVp (xZ3 (hdC items))) (yQ1 id (zJT K Q)) l F) (hb:blkB id (hdC items)=true:=by kernel_rfl):POk P n items Q l F:=λhf ρ ds w hK=>by
 cases items with
 | nil=>cases hb
 | cons c cs=>
  simp only[zJG,List.all_cons,Bool.and_eq_true]at hf
  cases c with
  | block j b=>
   have hj:=Nat.eq_of_beq_eq_true hb
   subst hj
   exact yZ8 (K:=K) (yWL (c:=b) rfl rfl (h (zKF (c:=b) hf.1) ρ ds w hK)) λρ' ds' w' hk=>hr hf.2 ρ' ds' w' hk
  | _=>cases hb
theorem lp (V lb:List zK4) (Fb:(Tup V->World->Prop)->Fn lb DW) (hr:Rest P n items.tail Q K)
  (h:∀J,POk P n (zVp (xZ3 (hdC items))) (zJT (λρ _ w=>zXA V ρ (mkT V λs=>s) λs=>J s w) (zJT K Q)) lb (Fb J))
  (hc:lpB (hdC items) V lb=true:=by kernel_rfl) (e:∀ρ,F=cur l (λρ ds w=>zXA V ρ (mkT V λs=>s) λs=>zQW (λJ s w=>unT V s (cur V (λρ=>Kof lb (Fb J) ρ ds w) ρ)) s w) ρ:=by intro _;kernel_rfl):POk P n items Q l F:=λhf ρ ds w hK=>by
 cases items with
 | nil=>cases hc
 | cons c cs=>
  simp only[zJG,List.all_cons,Bool.and_eq_true]at hf
  cases c with
  | loop b=>
   simp only[hdC,lpB,Bool.and_eq_true]at hc
   obtain⟨hnd,hlb⟩:=hc
   obtain⟨s0,ze,hL⟩:=zYh (yVb e hK)
   refine yZ8 (K:=K) (yVO (c:=b) (σ:=Tup V) (enc:=λs ρ=>setV V s ρ=ρ) (D:=λρ K=>zXA V ρ (mkT V λs=>s) K) (s0:=s0) rfl rfl ze hnd (λρ K h=>zYh h) (λJ s ρ' w' he ha hF=>?_) hL) λρ' ds' w' hk=>hr hf.2 ρ' ds' w' hk
   rw[xQD]at hF
   refine h J (zKF (c:=b) hf.1) ρ' ds w' (zWF (λt ht=>?_) hF)
   rw[←he]
   refine zVJ ?_
   have h1:=List.all_eq_true.1 hlb t ht
   simp only[Bool.or_eq_true,Bool.not_eq_true',List.any_eq_true]at h1
   rcases h1 with h1|⟨v,hv,hb⟩
   ·exact .inr (ha t.1 h1).symm
   ·exact .inl (List.mem_map.2 ⟨v,hv,Nat.eq_of_beq_eq_true hb⟩)
  | _=>cases hc
abbrev Pl(P:Program)(fn:Func)(l:List zK4)(F:Rt->Fn l DW):Prop:=∀R,POk P fn.ntmps (zVp (zJk fn)) (endQ P fn.results.toList R) l (F R)
def topB(fn:Func)(k:Nat):Bool:=fn.body.isSome && (zKw fn.ntmps (zJk fn) && Nat.ble k fn.ntmps)
theorem yQT{fn:Func}{k:Nat}(h:topB fn k=true):fn.body=some (zJk fn)/\zJG fn.ntmps (zVp (zJk fn))=true/\k<=fn.ntmps:=by
 simp only[topB,Bool.and_eq_true]at h
 refine⟨?_,zKF h.2.1,Nat.le_of_ble_eq_true h.2.2⟩
 unfold zJk
 cases hb:fn.body with
 | none=>rw[hb]at h;cases h.1
 | some c=>rfl
theorem plC {f:FuncId} {fn:Func} {F:Rt->Fn l DW} {args:Array Value} {R:Rt} {w:World} {X:Prop} (h:Pl P fn l F) (hf:P.funcs[f]?=some fn) (hX:X) (hb:topB fn args.size=true:=by kernel_rfl) (e:X=Kof l (F R) (zKU args.toList) [] w:=by kernel_rfl):Calls P f args w R:=by
 obtain⟨h1,h2,h3⟩:=yQT hb
 exact yJo hf h1 h3 rfl (h R h2 _ _ _ (e ▸ hX))
theorem plD {f:FuncId} {fn:Func} {F:Rt->Fn l DW} {args:Array Value} {R:Rt} {w:World} {X:Prop} (h:Pl P fn l F) (hf:P.funcs[f]?=some fn) (u:FrameMode) (hX:X) (hb:(topB fn args.size && zXc (zJk fn))=true:=by kernel_rfl) (e:X=Kof l (F R) (zKU args.toList) [] w:=by kernel_rfl) :
  CallsD P f args u w λe u' w'=>u'=u/\R e w':=by
 simp only[Bool.and_eq_true]at hb
 obtain⟨h1,h2,h3⟩:=yQT hb.1
 exact yXi hf h1 h3 hb.2 rfl (h R h2 _ _ _ (e ▸ hX)) u
abbrev iS(t:Nat):zK4:=(t,.one (.int .i64))
abbrev kS(k:IntKind)(t:Nat):zK4:=(t,.one (.int k))
abbrev bS(t:Nat):zK4:=(t,.one .bool)
abbrev sS(t:Nat):zK4:=(t,.one .str)
abbrev pS(t:Nat):zK4:=(t,.one .ptr)
abbrev lS(t:Nat):zK4:=(t,.one .slice)
abbrev mS(t:Nat):zK4:=(t,.one .map)
abbrev vS(t:Nat):zK4:=(t,.one .any)
abbrev aS(t:Nat)(ts:List Ty):zK4:=(t,.agg ts)
end Go.Sh
