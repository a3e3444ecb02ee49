import Derived.Test.YtaeecpjhfmcliaaGreatDoorShEight
/- Plans: how a function's code is walked, piece by piece, as one term; each piece's printed text is held against the code by the kernel. For every program. -/
set_option linter.unusedVariables false
namespace Go.Sh
variable {P : Program} {X Y Z : Type}
def Ty.T:Ty->Type
 | .int _=>Int
 | .bool=>Bool
 | .str=>ByteArray
 | .ptr=>Option Addr
 | .slice=>SV
 | .map=>Option Nat
 | .any=>Value
def Ty.val:(t:Ty)->t.T->Value
 | .int k,(n:Int)=>.int k n
 | .bool,(b:Bool)=>.bool b
 | .str,(s:ByteArray)=>.string s
 | .ptr,(p:Option Addr)=>.pointer p
 | .slice,(s:SV)=>.slice s.a s.len s.cap
 | .map,(m:Option Nat)=>.map m
 | .any,(v:Value)=>v
def Ty.take:(t:Ty)->Value->(t.T->Prop)->Prop
 | .int k,v,K=>yWE k v K
 | .bool,v,K=>dBl v K
 | .str,v,K=>dStr v K
 | .ptr,v,K=>dPtr v K
 | .slice,v,K=>dSl v K
 | .map,v,K=>dMap v K
 | .any,v,K=>K v
theorem Ty.take_elim:{t:Ty}->{v:Value}->{K:t.T->Prop}->t.take v K->∃x,v=t.val x/\K x
 | .int k,v,K,h=>yQD (K:=K) h
 | .bool,v,K,h=>zYY (K:=K) h
 | .str,v,K,h=>yXn (K:=K) h
 | .ptr,v,K,h=>yXh (K:=K) h
 | .slice,v,K,h=>yJ2 (K:=K) h
 | .map,v,K,h=>yQK (K:=K) h
 | .any,v,K,h=>⟨v,rfl,h⟩
abbrev zKE:=Nat × Shp
def FnT:List Ty->Type->Type
 | [],X=>X
 | t :: ts,X=>t.T->FnT ts X
def Shp.F:Shp->Type->Type
 | .one t,X=>t.T->X
 | .agg ts,X=>FnT ts X
 | .row _,X=>Array Value->X
def Fn:List zKE->Type->Type
 | [],X=>X
 | s :: l,X=>s.2.F (Fn l X)
def zJ7:(ts:List Ty)->List Value->FnT ts X->(X->Prop)->Prop
 | [],l,F,K=>yYV l (K F)
 | t :: ts,l,F,K=>dHd l λv l=>t.take v λx=>zJ7 ts l (F x) K
def Shp.take:(s:Shp)->Value->s.F X->(X->Prop)->Prop
 | .one t,v,F,K=>Ty.take t v λx=>K (F x)
 | .agg ts,v,F,K=>yWF v λl=>zJ7 ts l F K
 | .row _,v,F,K=>xQo v λcs=>K (F cs)
def zXR:(l:List zKE)->Env->Fn l X->(X->Prop)->Prop
 | [],_,F,K=>K F
 | s :: l,ρ,F,K=>Shp.take s.2 (ρ s.1) F λF=>zXR l ρ F K
def xQk:(ts:List Ty)->(List Value->X)->FnT ts X
 | [],H=>H []
 | t :: ts,H=>λx=>xQk ts λvs=>H (t.val x :: vs)
def Shp.cur:(s:Shp)->(Value->X)->s.F X
 | .one t,H=>λx=>H (t.val x)
 | .agg ts,H=>xQk ts λvs=>H (.agg vs.toArray)
 | .row _,H=>λcs=>H (.agg cs)
def cur:(l:List zKE)->(Env->X)->Env->Fn l X
 | [],G,ρ=>G ρ
 | s :: l,G,ρ=>Shp.cur s.2 λv=>cur l G (zKG ρ s.1 v)
theorem yXa:∀{ts:List Ty} {l:List Value} {H:List Value->X} {K:X->Prop},zJ7 ts l (xQk ts H) K->K (H l)
 | [],l,H,K,h=>by
  have h:yYV l (K (H [])):=h
  obtain⟨rfl,g1⟩:=zZJ h;replace h:=g1;exact h
 | t :: ts,l,H,K,h=>by
  have h:dHd l λv l=>t.take v λx=>zJ7 ts l (xQk ts λvs=>H (t.val x :: vs)) K:=h
  obtain⟨v,r,rfl,g2⟩:=zKf h;replace h:=g2
  obtain⟨x,rfl,g3⟩:=Ty.take_elim h;replace h:=g3
  exact yXa (ts:=ts) (H:=λvs=>H (t.val x :: vs)) h
theorem Shp.take_cur {s:Shp} {v:Value} {H:Value->X} {K:X->Prop} (h:Shp.take s v (s.cur H) K):K (H v):=by
 cases s with
 | one t=>
  have h:Ty.take t v λx=>K (H (t.val x)):=h
  obtain⟨x,rfl,g4⟩:=Ty.take_elim h;replace h:=g4;exact h
 | agg ts=>
  have h:yWF v λl=>zJ7 ts l (xQk ts λvs=>H (.agg vs.toArray)) K:=h
  obtain⟨l,rfl,g5⟩:=zJS h;replace h:=g5;exact yXa (H:=λvs=>H (.agg vs.toArray)) h
 | row n=>
  have h:xQo v λcs=>K (H (.agg cs)):=h
  obtain⟨cs,rfl,g6⟩:=zJJ h;replace h:=g6;exact h
theorem Ty.take_val{t:Ty}{x:t.T}{K:t.T->Prop}(h:K x):t.take (t.val x) K:=by
 cases t with
 | int k=>
  show yWE k (.int k x) K
  unfold yWE;simp only[decide_true];exact h
 | _=>exact h
theorem take_cur:∀{l:List zKE} {ρ:Env} {G:Env->X} {K:X->Prop},zXR l ρ (cur l G ρ) K->K (G ρ)
 | [],_,_,_,h=>h
 | s :: l,ρ,G,K,h=>by
  have h1:=Shp.take_cur (H:=λv=>cur l G (zKG ρ s.1 v)) (K:=λF=>zXR l ρ F K) h
  rw[zWi rfl]at h1
  exact take_cur h1
theorem zV4:∀{l:List zKE} {ρ ρ':Env} {F:Fn l X} {K:X->Prop},(∀s ∈ l,ρ s.1=ρ' s.1)->zXR l ρ F K->zXR l ρ' F K
 | [],_,_,_,_,_,h=>h
 | s :: l,ρ,ρ',F,K,he,h=>by
  have h:Shp.take s.2 (ρ s.1) F λF=>zXR l ρ F K:=h
  show Shp.take s.2 (ρ' s.1) F λF=>zXR l ρ' F K
  rw[he s (by simp)]at h
  have hl:∀F':Fn l X,zXR l ρ F' K->zXR l ρ' F' K:=λF'=>zV4 λs' hs=>he s' (by simp[hs])
  clear he
  obtain⟨t,sh⟩:=s
  have mono:∀(ts:List Ty) (vs:List Value) (F:FnT ts (Fn l X)),zJ7 ts vs F (λF=>zXR l ρ F K)->zJ7 ts vs F (λF=>zXR l ρ' F K):=by
   intro ts
   induction ts with
   | nil=>
    intro vs F h
    have h:yYV vs (zXR l ρ F K):=h
    obtain⟨rfl,g7⟩:=zZJ h;replace h:=g7;exact hl _ h
   | cons ty ts ih=>
    intro vs F h
    have h:dHd vs λv r=>ty.take v λx=>zJ7 ts r (F x) λF=>zXR l ρ F K:=h
    obtain⟨v,r,rfl,g8⟩:=zKf h;replace h:=g8
    obtain⟨x,rfl,g9⟩:=Ty.take_elim h;replace h:=g9
    exact Ty.take_val (K:=λx=>zJ7 ts r (F x) λF=>zXR l ρ' F K) (ih r (F x) h)
  cases sh with
  | one ty=>
   have h:Ty.take ty (ρ' t) λx=>zXR l ρ (F x) K:=h
   show Ty.take ty (ρ' t) λx=>zXR l ρ' (F x) K
   obtain⟨x,hx,h⟩:=Ty.take_elim h
   rw[hx]
   exact Ty.take_val (K:=λx=>zXR l ρ' (F x) K) (hl (F x) h)
  | agg ts=>
   have h:yWF (ρ' t) λvs=>zJ7 ts vs F λF=>zXR l ρ F K:=h
   obtain⟨vs,hv,h⟩:=zJS h
   show yWF (ρ' t) λvs=>zJ7 ts vs F λF=>zXR l ρ' F K
   rw[hv]
   exact mono ts vs F h
  | row n=>
   have h:xQo (ρ' t) λcs=>zXR l ρ (F cs) K:=h
   obtain⟨cs,hv,h⟩:=zJJ h
   show xQo (ρ' t) λcs=>zXR l ρ' (F cs) K
   rw[hv]
   exact hl _ h
def yXS:List Ty->Type->Type
 | [],X=>X
 | t :: ts,X=>t.T × yXS ts X
def yZy:List Ty->Type
 | []=>Unit
 | [t]=>t.T
 | t :: u :: ts=>t.T × yZy (u :: ts)
def Shp.cons:Shp->Type->Type
 | .one t,X=>t.T × X
 | .agg ts,X=>yXS ts X
 | .row _,X=>Array Value × X
def Shp.last:Shp->Type
 | .one t=>t.T
 | .agg ts=>yZy ts
 | .row _=>Array Value
def Tup:List zKE->Type
 | []=>Unit
 | [s]=>s.2.last
 | s :: u :: l=>s.2.cons (Tup (u :: l))
def zVZ:(ts:List Ty)->yXS ts X->FnT ts Y->X × Y
 | [],r,F=>(r,F)
 | _ :: ts,p,F=>zVZ ts p.2 (F p.1)
def yQe:(ts:List Ty)->yZy ts->FnT ts Y->Y
 | [],_,F=>F
 | [_],x,F=>F x
 | _ :: u :: ts,p,F=>yQe (u :: ts) p.2 (F p.1)
def Shp.unCons:(s:Shp)->s.cons X->s.F Y->X × Y
 | .one _,p,F=>(p.2,F p.1)
 | .agg ts,p,F=>zVZ ts p F
 | .row _,p,F=>(p.2,F p.1)
def Shp.unLast:(s:Shp)->s.last->s.F Y->Y
 | .one _,x,F=>F x
 | .agg ts,x,F=>yQe ts x F
 | .row _,x,F=>F x
def unT:(V:List zKE)->Tup V->Fn V X->X
 | [],_,F=>F
 | [s],x,F=>Shp.unLast s.2 x F
 | s :: u :: l,x,F=>unT (u :: l) (Shp.unCons s.2 x F).1 (Shp.unCons s.2 x F).2
def zV1:(ts:List Ty)->((Y->yXS ts Y)->Z)->FnT ts Z
 | [],H=>H λy=>y
 | _ :: ts,H=>λx=>zV1 ts λg=>H λy=>(x,g y)
def zYb:(ts:List Ty)->(yZy ts->Z)->FnT ts Z
 | [],H=>H ()
 | [_],H=>λx=>H x
 | _ :: u :: ts,H=>λx=>zYb (u :: ts) λr=>H (x,r)
def Shp.mkCons:(s:Shp)->((Y->s.cons Y)->Z)->s.F Z
 | .one _,H=>λx=>H λy=>(x,y)
 | .agg ts,H=>zV1 ts H
 | .row _,H=>λx=>H λy=>(x,y)
def Shp.mkLast:(s:Shp)->(s.last->Z)->s.F Z
 | .one _,H=>λx=>H x
 | .agg ts,H=>zYb ts H
 | .row _,H=>λx=>H x
def mkT:(V:List zKE)->(Tup V->X)->Fn V X
 | [],k=>k ()
 | [s],k=>Shp.mkLast s.2 k
 | s :: u :: l,k=>Shp.mkCons s.2 λg=>mkT (u :: l) λr=>k (g r)
def setV(V:List zKE)(s:Tup V)(ρ:Env):Env:=unT V s (cur V (λρ=>ρ) ρ)
theorem zVJ:∀{ts:List Ty} {p:yXS ts X},∃vs,∀{Y:Type} {H:List Value->Y},zVZ ts p (xQk ts H)=((zVZ ts p (xQk ts λ_=>())).1,H vs)
 | [],p=>⟨[],rfl⟩
 | t :: ts,p=>by
  obtain⟨vs,h⟩:=zVJ (ts:=ts) (p:=p.2)
  exact⟨t.val p.1 :: vs,λ{Y H}=>h (H:=λvs=>H (t.val p.1 :: vs))⟩
theorem zVG:∀{ts:List Ty} {p:yZy ts},∃vs,∀{Y:Type} {H:List Value->Y},yQe ts p (xQk ts H)=H vs
 | [],p=>⟨[],rfl⟩
 | [t],x=>⟨[t.val x],rfl⟩
 | t :: u :: ts,p=>by
  obtain⟨vs,h⟩:=zVG (ts:=u :: ts) (p:=p.2)
  exact⟨t.val p.1 :: vs,λ{Y H}=>h (H:=λvs=>H (t.val p.1 :: vs))⟩
theorem zY9{s:Shp}{p:s.cons X}:∃r v,∀{Y:Type} {H:Value->Y},s.unCons p (s.cur H)=(r,H v):=by
 cases s with
 | one t=>exact⟨p.2,t.val p.1,rfl⟩
 | agg ts=>obtain⟨vs,h⟩:=zVJ (ts:=ts) (p:=p);exact⟨_,.agg vs.toArray,h⟩
 | row n=>exact⟨p.2,.agg p.1,rfl⟩
theorem zYC{s:Shp}{p:s.last}:∃v,∀{Y:Type} {H:Value->Y},s.unLast p (s.cur H)=H v:=by
 cases s with
 | one t=>exact⟨t.val p,rfl⟩
 | agg ts=>obtain⟨vs,h⟩:=zVG (ts:=ts) (p:=p);exact⟨.agg vs.toArray,h⟩
 | row n=>exact⟨.agg p,rfl⟩
theorem xK3:∀{V:List zKE} {s:Tup V} {X:Type} {G:Env->X} {ρ:Env},unT V s (cur V G ρ)=G (setV V s ρ)
 | [],_,_,_,_=>rfl
 | [s],x,X,G,ρ=>by
  obtain⟨v,h⟩:=zYC (s:=s.2) (p:=x)
  show s.2.unLast x (s.2.cur λv=>G (zKG ρ s.1 v))=G (s.2.unLast x (s.2.cur λv=>zKG ρ s.1 v))
  rw[h,h]
 | s :: u :: l,x,X,G,ρ=>by
  obtain⟨r,v,h⟩:=zY9 (s:=s.2) (p:=x)
  show unT (u :: l) (s.2.unCons x (s.2.cur λv=>cur (u :: l) G (zKG ρ s.1 v))).1 (s.2.unCons x (s.2.cur λv=>cur (u :: l) G (zKG ρ s.1 v))).2=G (unT (u :: l) (s.2.unCons x (s.2.cur λv=>cur (u :: l) (λρ=>ρ) (zKG ρ s.1 v))).1 (s.2.unCons x (s.2.cur λv=>cur (u :: l) (λρ=>ρ) (zKG ρ s.1 v))).2)
  rw[h,h]
  exact xK3 (V:=u :: l)
theorem zY0:∀{V:List zKE} {s:Tup V} {ρ ρ':Env} {t:Nat},(t ∈ V.map Prod.fst∨ρ t=ρ' t)->setV V s ρ t=setV V s ρ' t
 | [],_,_,_,_,h=>h.elim (λh=>by cases h) id
 | [s],x,ρ,ρ',t,h=>by
  obtain⟨v,hv⟩:=zYC (s:=s.2) (p:=x)
  show s.2.unLast x (s.2.cur λv=>zKG ρ s.1 v) t=s.2.unLast x (s.2.cur λv=>zKG ρ' s.1 v) t
  rw[hv,hv]
  unfold zKG
  cases hb:Nat.beq t s.1 with
  | true=>rfl
  | false=>
   rcases h with h|h
   ·simp only[List.map_cons,List.map_nil,List.mem_singleton]at h
    rw[h,Nat.beq_refl]at hb;cases hb
   ·exact h
 | s :: u :: l,x,ρ,ρ',t,h=>by
  obtain⟨r,v,hv⟩:=zY9 (s:=s.2) (p:=x)
  show unT (u :: l) (s.2.unCons x (s.2.cur λv=>cur (u :: l) (λρ=>ρ) (zKG ρ s.1 v))).1 (s.2.unCons x (s.2.cur λv=>cur (u :: l) (λρ=>ρ) (zKG ρ s.1 v))).2 t=unT (u :: l) (s.2.unCons x (s.2.cur λv=>cur (u :: l) (λρ=>ρ) (zKG ρ' s.1 v))).1 (s.2.unCons x (s.2.cur λv=>cur (u :: l) (λρ=>ρ) (zKG ρ' s.1 v))).2 t
  rw[hv,hv]
  refine zY0 (V:=u :: l) (s:=r) (ρ:=zKG ρ s.1 v) (ρ':=zKG ρ' s.1 v) ?_
  unfold zKG
  cases hb:Nat.beq t s.1 with
  | true=>exact .inr rfl
  | false=>
   rcases h with h|h
   ·rw[List.map_cons,List.mem_cons]at h
    rcases h with h|h
    ·rw[h,Nat.beq_refl]at hb;cases hb
    ·exact .inl h
   ·exact .inr h
theorem zWL:∀{ts:List Ty} {l:List Value} {H:(X->yXS ts X)->Z} {K:Z->Prop},zJ7 ts l (zV1 ts H) K->∃g:X->yXS ts X,K (H g)/\∀x {Y:Type} {G:List Value->Y},zVZ ts (g x) (xQk ts G)=(x,G l)
 | [],l,H,K,h=>by
  have h:yYV l (K (H λy=>y)):=h
  obtain⟨rfl,g10⟩:=zZJ h;replace h:=g10;exact⟨_,h,λx=>rfl⟩
 | t :: ts,l,H,K,h=>by
  have h:dHd l λv l=>t.take v λx=>zJ7 ts l (zV1 ts λg=>H λy=>(x,g y)) K:=h
  obtain⟨v,r,rfl,g11⟩:=zKf h;replace h:=g11
  obtain⟨x,rfl,g12⟩:=Ty.take_elim h;replace h:=g12
  obtain⟨g,h1,h2⟩:=zWL (ts:=ts) (H:=λg=>H λy=>(x,g y)) h
  exact⟨_,h1,λy {Y G}=>h2 y (G:=λvs=>G (t.val x :: vs))⟩
theorem zWW:∀{ts:List Ty} {l:List Value} {H:yZy ts->Z} {K:Z->Prop},zJ7 ts l (zYb ts H) K->∃g:yZy ts,K (H g)/\∀{Y:Type} {G:List Value->Y},yQe ts g (xQk ts G)=G l
 | [],l,H,K,h=>by
  have h:yYV l (K (H ())):=h
  obtain⟨rfl,g13⟩:=zZJ h;replace h:=g13;exact⟨(),h,rfl⟩
 | [t],l,H,K,h=>by
  have h:dHd l λv l=>t.take v λx=>yYV l (K (H x)):=h
  obtain⟨v,r,rfl,g14⟩:=zKf h;replace h:=g14
  obtain⟨x,rfl,g15⟩:=Ty.take_elim h;replace h:=g15
  obtain⟨rfl,g16⟩:=zZJ h;replace h:=g16
  exact⟨x,h,rfl⟩
 | t :: u :: ts,l,H,K,h=>by
  have h:dHd l λv l=>t.take v λx=>zJ7 (u :: ts) l (zYb (u :: ts) λr=>H (x,r)) K:=h
  obtain⟨v,r,rfl,g17⟩:=zKf h;replace h:=g17
  obtain⟨x,rfl,g18⟩:=Ty.take_elim h;replace h:=g18
  obtain⟨g,h1,h2⟩:=zWW (ts:=u :: ts) (H:=λr=>H (x,r)) h
  exact⟨_,h1,λ{Y G}=>h2 (G:=λvs=>G (t.val x :: vs))⟩
theorem yXY {s:Shp} {v:Value} {H:(X->s.cons X)->Z} {K:Z->Prop} (h:Shp.take s v (s.mkCons H) K):∃g:X->s.cons X,K (H g)/\∀x {Y:Type} {G:Value->Y},s.unCons (g x) (s.cur G)=(x,G v):=by
 cases s with
 | one t=>
  have h:Ty.take t v λx=>K (H λy=>(x,y)):=h
  obtain⟨x,rfl,g19⟩:=Ty.take_elim h;replace h:=g19;exact⟨_,h,λy=>rfl⟩
 | agg ts=>
  have h:yWF v λl=>zJ7 ts l (zV1 ts H) K:=h
  obtain⟨l,rfl,g20⟩:=zJS h;replace h:=g20
  obtain⟨g,h1,h2⟩:=zWL h;exact⟨g,h1,λx {Y G}=>h2 x (G:=λvs=>G (.agg vs.toArray))⟩
 | row n=>
  have h:xQo v λx=>K (H λy=>(x,y)):=h
  obtain⟨cs,rfl,g21⟩:=zJJ h;replace h:=g21;exact⟨_,h,λy=>rfl⟩
theorem yZx {s:Shp} {v:Value} {H:s.last->Z} {K:Z->Prop} (h:Shp.take s v (s.mkLast H) K):∃g:s.last,K (H g)/\∀{Y:Type} {G:Value->Y},s.unLast g (s.cur G)=G v:=by
 cases s with
 | one t=>
  have h:Ty.take t v λx=>K (H x):=h
  obtain⟨x,rfl,g22⟩:=Ty.take_elim h;replace h:=g22;exact⟨_,h,rfl⟩
 | agg ts=>
  have h:yWF v λl=>zJ7 ts l (zYb ts H) K:=h
  obtain⟨l,rfl,g23⟩:=zJS h;replace h:=g23
  obtain⟨g,h1,h2⟩:=zWW h;exact⟨g,h1,λ{Y G}=>h2 (G:=λvs=>G (.agg vs.toArray))⟩
 | row n=>
  have h:xQo v λx=>K (H x):=h
  obtain⟨cs,rfl,g24⟩:=zJJ h;replace h:=g24;exact⟨_,h,rfl⟩
theorem yQn:∀{V:List zKE} {ρ:Env} {X:Type} {k:Tup V->X} {K:X->Prop},zXR V ρ (mkT V k) K->∃s,setV V s ρ=ρ/\K (k s)
 | [],ρ,X,k,K,h=>⟨(),rfl,h⟩
 | [s],ρ,X,k,K,h=>by
  obtain⟨g,h1,h2⟩:=yZx (s:=s.2) (K:=K) h
  refine⟨g,?_,h1⟩
  show s.2.unLast g (s.2.cur λv=>zKG ρ s.1 v)=ρ
  rw[h2];exact zWi rfl
 | s :: u :: l,ρ,X,k,K,h=>by
  obtain⟨g,h1,h2⟩:=yXY (s:=s.2) (K:=λF=>zXR (u :: l) ρ F K) h
  obtain⟨r,h3,h4⟩:=yQn (V:=u :: l) h1
  refine⟨g r,?_,h4⟩
  show unT (u :: l) (s.2.unCons (g r) (s.2.cur λv=>cur (u :: l) (λρ=>ρ) (zKG ρ s.1 v))).1 (s.2.unCons (g r) (s.2.cur λv=>cur (u :: l) (λρ=>ρ) (zKG ρ s.1 v))).2=ρ
  rw[h2,zWi rfl]
  exact h3
abbrev DW:=Ds->World->Prop
def hdC:List Code->Code
 | []=>.skip
 | c :: _=>c
def Kof(l:List zKE)(F:Fn l DW):EP:=λρ ds w=>zXR l ρ F λ(p:DW)=>p ds w
def POk(P:Program)(n:Nat)(items:List Code)(Q:EQ)(l:List zKE)(F:Fn l DW):Prop:=
 zJz n items=true->∀ρ ds w,Kof l F ρ ds w->TrL P n items Q ρ ds w
def xKT(P:Program)(n:Nat)(items:List Code)(Q:EQ)(K:EP):Prop:=
 zJz n items=true->∀ρ ds w,K ρ ds w->TrL P n items Q ρ ds w
variable {n : Nat} {items : List Code} {Q : EQ} {l : List zKE} {F : Fn l DW} {K : EP}
theorem yJi{ρ:Env}{ds:Ds}{w:World}{G:EP}(e:∀ρ,F=cur l G ρ)(h:Kof l F ρ ds w):G ρ ds w:=by
 have h:zXR l ρ F λ(p:DW)=>p ds w:=h
 rw[e ρ]at h
 exact take_cur (K:=λ(p:DW)=>p ds w) h
theorem zXY(h:items.isEmpty=true:=by kernel_rfl):xKT P n items Q (Q .normal):=λ_ ρ ds w hK=>by
 cases items with
 | nil=>exact hK
 | cons c cs=>cases h
theorem rest(l:List zKE)(F:Fn l DW)(h:POk P n items Q l F):xKT P n items Q (Kof l F):=h
theorem yQE {a b:List Code} (h:zJz n (a ++ b)=true):zJz n a=true/\zJz n b=true:=by
 simpa[zJz,List.all_append] using h
theorem zZw:∀{c:Code},zKD n c=true->zJz n (zW4 c)=true:=by
 intro c
 induction c with
 | seq x y ihx ihy=>
  intro h
  simp only[zKD,Bool.and_eq_true]at h
  have h1:=ihx h.1
  have h2:=ihy h.2
  show zJz n (zW4 x ++ zW4 y)=true
  simp only[zJz,List.all_append,Bool.and_eq_true]at h1 h2 ⊢
  exact⟨h1,h2⟩
 | _=>intro h;simp only[zW4,zJz,List.all_cons,List.all_nil,Bool.and_true];exact h
theorem lf (e:∀ρ,F=cur l (ptL P items Q) ρ:=by intro _;kernel_rfl):POk P n items Q l F:=λhf ρ ds w h=>zWw hf (yJi e h)
theorem pc (k:Nat) (hr:xKT P n (items.drop k) Q K) (e:∀ρ,F=cur l (ptL P (items.take k) (zJx K Q)) ρ:=by intro _;kernel_rfl):POk P n items Q l F:=λhf ρ ds w h=>by
 rw[←List.take_append_drop k items]at hf ⊢
 obtain⟨h1,h2⟩:=yQE hf
 exact xQA h1 (yJi e h) λρ' ds' w' _ _ hK=>hr h2 ρ' ds' w' hK
def blkB(id:Nat):Code->Bool
 | .block j _=>Nat.beq j id
 | _=>false
def scpB:Code->Bool
 | .scope _=>true
 | _=>false
def cndB(t:Nat):Code->Bool
 | .cond (.tmp u) _ _=>Nat.beq u t
 | _=>false
def lpB(c:Code)(V lb:List zKE):Bool:=match c with
 | .loop b=>zXm b && lb.all λs=>!(zVE b s.1) || V.any λv=>Nat.beq v.1 s.1
 | _=>false
theorem bk (id:Nat) (hr:xKT P n items.tail Q K) (h:POk P n (zW4 (yV9 (hdC items))) (yQX id (zJx K Q)) l F) (hb:blkB id (hdC items)=true:=by kernel_rfl):POk P n items Q l F:=λhf ρ ds w hK=>by
 cases items with
 | nil=>cases hb
 | cons c cs=>
  simp only[zJz,List.all_cons,Bool.and_eq_true]at hf
  cases c with
  | block j b=>
   have hj:=Nat.eq_of_beq_eq_true hb
   subst hj
   exact zVi (K:=K) (yVs (c:=b) rfl rfl (h (zZw (c:=b) hf.1) ρ ds w hK)) λρ' ds' w' hk=>hr hf.2 ρ' ds' w' hk
  | _=>cases hb
theorem sc (hr:xKT P n items.tail Q K) (h:POk P n (zW4 (yV9 (hdC items))) (zJx K Q) l F) (hb:scpB (hdC items)=true:=by kernel_rfl):POk P n items Q l F:=λhf ρ ds w hK=>by
 cases items with
 | nil=>cases hb
 | cons c cs=>
  simp only[zJz,List.all_cons,Bool.and_eq_true]at hf
  cases c with
  | scope b=>exact zVi (K:=K) (yY6 (c:=b) rfl rfl (h (zZw (c:=b) hf.1) ρ ds w hK)) λρ' ds' w' hk=>hr hf.2 ρ' ds' w' hk
  | _=>cases hb
theorem cd(t:Nat)(l1:List zKE)(F1:Fn l1 DW)(l2:List zKE)(F2:Fn l2 DW)(hr:xKT P n items.tail Q K)
  (h1:POk P n (zW4 (thnC (hdC items))) (zJx K Q) l1 F1) (h2:POk P n (zW4 (elsC (hdC items))) (zJx K Q) l2 F2)
  (hb:cndB t (hdC items)=true:=by kernel_rfl) (e:∀ρ,F=cur l (λρ ds w=>dBl (ρ t) λb=>Br b (Kof l1 F1 ρ ds w) (Kof l2 F2 ρ ds w)) ρ:=by intro _;kernel_rfl):POk P n items Q l F:=λhf ρ ds w hK=>by
 cases items with
 | nil=>cases hb
 | cons c cs=>
  simp only[zJz,List.all_cons,Bool.and_eq_true]at hf
  cases c with
  | cond o x y=>
   cases o with
   | tmp u=>
    have hu:=Nat.eq_of_beq_eq_true hb
    subst hu
    have dH:=hf.1
    simp only[zKD,Bool.and_eq_true]at dH
    obtain⟨b,hv,hB⟩:=zYY (yJi e hK)
    exact zVi (K:=K) (xX1 (x:=x) (y:=y) rfl rfl rfl hv (λh=>h1 (zZw (c:=x) dH.1) ρ ds w h) (λh=>h2 (zZw (c:=y) dH.2) ρ ds w h) hB) λρ' ds' w' hk=>hr hf.2 ρ' ds' w' hk
   | _=>cases hb
  | _=>cases hb
theorem lp (V lb:List zKE) (Fb:(Tup V->World->Prop)->Fn lb DW) (hr:xKT P n items.tail Q K)
  (h:∀J,POk P n (zW4 (yV9 (hdC items))) (zJx (λρ _ w=>zXR V ρ (mkT V λs=>s) λs=>J s w) (zJx K Q)) lb (Fb J))
  (hc:lpB (hdC items) V lb=true:=by kernel_rfl) (e:∀ρ,F=cur l (λρ ds w=>zXR V ρ (mkT V λs=>s) λs=>zQD (λJ s w=>unT V s (cur V (λρ=>Kof lb (Fb J) ρ ds w) ρ)) s w) ρ:=by intro _;kernel_rfl):POk P n items Q l F:=λhf ρ ds w hK=>by
 cases items with
 | nil=>cases hc
 | cons c cs=>
  simp only[zJz,List.all_cons,Bool.and_eq_true]at hf
  cases c with
  | loop b=>
   simp only[hdC,lpB,Bool.and_eq_true]at hc
   obtain⟨hnd,hlb⟩:=hc
   obtain⟨s0,hs0,hL⟩:=yQn (yJi e hK)
   refine zVi (K:=K) (xXu (c:=b) (σ:=Tup V) (enc:=λs ρ=>setV V s ρ=ρ) (D:=λρ K=>zXR V ρ (mkT V λs=>s) K) (s0:=s0) rfl rfl hs0 hnd (λρ K h=>yQn h) (λJ s ρ' w' he ha hF=>?_) hL) λρ' ds' w' hk=>hr hf.2 ρ' ds' w' hk
   rw[xK3]at hF
   refine h J (zZw (c:=b) hf.1) ρ' ds w' (zV4 (λt ht=>?_) hF)
   rw[←he]
   refine zY0 ?_
   have h1:=List.all_eq_true.1 hlb t ht
   simp only[Bool.or_eq_true,Bool.not_eq_true',List.any_eq_true]at h1
   rcases h1 with h1|⟨v,hv,hb⟩
   ·exact .inr (ha t.1 h1).symm
   ·exact .inl (List.mem_map.2 ⟨v,hv,Nat.eq_of_beq_eq_true hb⟩)
  | _=>cases hc
abbrev Pl(P:Program)(fn:Func)(l:List zKE)(F:Rt->Fn l DW):Prop:=∀R,POk P fn.ntmps (zW4 (zJM fn)) (endQ P fn.results.toList R) l (F R)
def topB(fn:Func)(k:Nat):Bool:=fn.body.isSome && (zKD fn.ntmps (zJM fn) && Nat.ble k fn.ntmps)
theorem yXC{fn:Func}{k:Nat}(h:topB fn k=true):fn.body=some (zJM fn)/\zJz fn.ntmps (zW4 (zJM fn))=true/\k<=fn.ntmps:=by
 simp only[topB,Bool.and_eq_true]at h
 refine⟨?_,zZw h.2.1,Nat.le_of_ble_eq_true h.2.2⟩
 unfold zJM
 cases hb:fn.body with
 | none=>rw[hb]at h;cases h.1
 | some c=>rfl
theorem plC {f:FuncId} {fn:Func} {F:Rt->Fn l DW} {args:Array Value} {R:Rt} {w:World} {X:Prop} (h:Pl P fn l F) (hf:P.funcs[f]?=some fn) (hX:X) (hb:topB fn args.size=true:=by kernel_rfl) (e:X=Kof l (F R) (zWN args.toList) [] w:=by kernel_rfl):Calls P f args w R:=by
 obtain⟨h1,h2,h3⟩:=yXC hb
 exact yWg hf h1 h3 rfl (h R h2 _ _ _ (e ▸ hX))
theorem plD {f:FuncId} {fn:Func} {F:Rt->Fn l DW} {args:Array Value} {R:Rt} {w:World} {X:Prop} (h:Pl P fn l F) (hf:P.funcs[f]?=some fn) (u:FrameMode) (hX:X) (hb:(topB fn args.size && zXm (zJM fn))=true:=by kernel_rfl) (e:X=Kof l (F R) (zWN args.toList) [] w:=by kernel_rfl) :
  CallsD P f args u w λe u' w'=>u'=u/\R e w':=by
 simp only[Bool.and_eq_true]at hb
 obtain⟨h1,h2,h3⟩:=yXC hb.1
 exact yXM hf h1 h3 hb.2 rfl (h R h2 _ _ _ (e ▸ hX)) u
abbrev iS(t:Nat):zKE:=(t,.one (.int .i64))
abbrev kS(k:IntKind)(t:Nat):zKE:=(t,.one (.int k))
abbrev bS(t:Nat):zKE:=(t,.one .bool)
abbrev sS(t:Nat):zKE:=(t,.one .str)
abbrev pS(t:Nat):zKE:=(t,.one .ptr)
abbrev lS(t:Nat):zKE:=(t,.one .slice)
abbrev mS(t:Nat):zKE:=(t,.one .map)
abbrev vS(t:Nat):zKE:=(t,.one .any)
abbrev aS(t:Nat)(ts:List Ty):zKE:=(t,.agg ts)
end Go.Sh
