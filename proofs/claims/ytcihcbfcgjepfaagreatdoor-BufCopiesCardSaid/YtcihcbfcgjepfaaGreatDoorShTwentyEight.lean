import Derived.Test.YtcihcbfcgjepfaaGreatDoorShEight
/- Plans: how a function's code is walked, piece by piece, as one term; each piece's printed text is held against the code by the kernel. For every program. -/
set_option linter.unusedVariables false
namespace Go.Sh
variable {P : Program} {X Y Z : Type}
def Ty.T:Ty->Type
 | .int _=>Int
 | .bool=>Bool
 | .str=>ByteArray
 | .ptr=>Option Addr
 | .slice=>SV
 | .map=>Option Nat
 | .any=>Value
def Ty.val:(t:Ty)->t.T->Value
 | .int k,(n:Int)=>.int k n
 | .bool,(b:Bool)=>.bool b
 | .str,(s:ByteArray)=>.string s
 | .ptr,(p:Option Addr)=>.pointer p
 | .slice,(s:SV)=>.slice s.a s.len s.cap
 | .map,(m:Option Nat)=>.map m
 | .any,(v:Value)=>v
def Ty.take:(t:Ty)->Value->(t.T->Prop)->Prop
 | .int k,v,K=>yQc k v K
 | .bool,v,K=>dBl v K
 | .str,v,K=>dStr v K
 | .ptr,v,K=>dPtr v K
 | .slice,v,K=>dSl v K
 | .map,v,K=>dMap v K
 | .any,v,K=>K v
theorem Ty.take_elim:{t:Ty}->{v:Value}->{K:t.T->Prop}->t.take v K->∃x,v=t.val x/\K x
 | .int k,v,K,h=>yQb (K:=K) h
 | .bool,v,K,h=>yXI (K:=K) h
 | .str,v,K,h=>zY9 (K:=K) h
 | .ptr,v,K,h=>zYJ (K:=K) h
 | .slice,v,K,h=>yXJ (K:=K) h
 | .map,v,K,h=>yQd (K:=K) h
 | .any,v,K,h=>⟨v,rfl,h⟩
abbrev zK2:=Nat × Shp
def FnT:List Ty->Type->Type
 | [],X=>X
 | t :: ts,X=>t.T->FnT ts X
def Shp.F:Shp->Type->Type
 | .one t,X=>t.T->X
 | .agg ts,X=>FnT ts X
 | .row _,X=>Array Value->X
def Fn:List zK2->Type->Type
 | [],X=>X
 | s :: l,X=>s.2.F (Fn l X)
def zJe:(ts:List Ty)->List Value->FnT ts X->(X->Prop)->Prop
 | [],l,F,K=>yZE l (K F)
 | t :: ts,l,F,K=>dHd l λv l=>t.take v λx=>zJe ts l (F x) K
def Shp.take:(s:Shp)->Value->s.F X->(X->Prop)->Prop
 | .one t,v,F,K=>Ty.take t v λx=>K (F x)
 | .agg ts,v,F,K=>yX5 v λl=>zJe ts l F K
 | .row _,v,F,K=>yYj v λcs=>K (F cs)
def zXO:(l:List zK2)->Env->Fn l X->(X->Prop)->Prop
 | [],_,F,K=>K F
 | s :: l,ρ,F,K=>Shp.take s.2 (ρ s.1) F λF=>zXO l ρ F K
def yYi:(ts:List Ty)->(List Value->X)->FnT ts X
 | [],H=>H []
 | t :: ts,H=>λx=>yYi ts λvs=>H (t.val x :: vs)
def Shp.cur:(s:Shp)->(Value->X)->s.F X
 | .one t,H=>λx=>H (t.val x)
 | .agg ts,H=>yYi ts λvs=>H (.agg vs.toArray)
 | .row _,H=>λcs=>H (.agg cs)
def cur:(l:List zK2)->(Env->X)->Env->Fn l X
 | [],G,ρ=>G ρ
 | s :: l,G,ρ=>Shp.cur s.2 λv=>cur l G (zKn ρ s.1 v)
theorem zYZ:∀{ts:List Ty} {l:List Value} {H:List Value->X} {K:X->Prop},zJe ts l (yYi ts H) K->K (H l)
 | [],l,H,K,h=>by
  have h:yZE l (K (H [])):=h
  obtain⟨rfl,g1⟩:=zZD h;replace h:=g1;exact h
 | t :: ts,l,H,K,h=>by
  have h:dHd l λv l=>t.take v λx=>zJe ts l (yYi ts λvs=>H (t.val x :: vs)) K:=h
  obtain⟨v,r,rfl,g2⟩:=zJ8 h;replace h:=g2
  obtain⟨x,rfl,g3⟩:=Ty.take_elim h;replace h:=g3
  exact zYZ (ts:=ts) (H:=λvs=>H (t.val x :: vs)) h
theorem Shp.take_cur {s:Shp} {v:Value} {H:Value->X} {K:X->Prop} (h:Shp.take s v (s.cur H) K):K (H v):=by
 cases s with
 | one t=>
  have h:Ty.take t v λx=>K (H (t.val x)):=h
  obtain⟨x,rfl,g4⟩:=Ty.take_elim h;replace h:=g4;exact h
 | agg ts=>
  have h:yX5 v λl=>zJe ts l (yYi ts λvs=>H (.agg vs.toArray)) K:=h
  obtain⟨l,rfl,g5⟩:=zJy h;replace h:=g5;exact zYZ (H:=λvs=>H (.agg vs.toArray)) h
 | row n=>
  have h:yYj v λcs=>K (H (.agg cs)):=h
  obtain⟨cs,rfl,g6⟩:=zJu h;replace h:=g6;exact h
theorem Ty.take_val{t:Ty}{x:t.T}{K:t.T->Prop}(h:K x):t.take (t.val x) K:=by
 cases t with
 | int k=>
  show yQc k (.int k x) K
  unfold yQc;simp only[decide_true];exact h
 | _=>exact h
theorem take_cur:∀{l:List zK2} {ρ:Env} {G:Env->X} {K:X->Prop},zXO l ρ (cur l G ρ) K->K (G ρ)
 | [],_,_,_,h=>h
 | s :: l,ρ,G,K,h=>by
  have h1:=Shp.take_cur (H:=λv=>cur l G (zKn ρ s.1 v)) (K:=λF=>zXO l ρ F K) h
  rw[zKq rfl]at h1
  exact take_cur h1
theorem zW7:∀{l:List zK2} {ρ ρ':Env} {F:Fn l X} {K:X->Prop},(∀s ∈ l,ρ s.1=ρ' s.1)->zXO l ρ F K->zXO l ρ' F K
 | [],_,_,_,_,_,h=>h
 | s :: l,ρ,ρ',F,K,he,h=>by
  have h:Shp.take s.2 (ρ s.1) F λF=>zXO l ρ F K:=h
  show Shp.take s.2 (ρ' s.1) F λF=>zXO l ρ' F K
  rw[he s (by simp)]at h
  have hl:∀F':Fn l X,zXO l ρ F' K->zXO l ρ' F' K:=λF'=>zW7 λs' hs=>he s' (by simp[hs])
  clear he
  obtain⟨t,sh⟩:=s
  have mono:∀(ts:List Ty) (vs:List Value) (F:FnT ts (Fn l X)),zJe ts vs F (λF=>zXO l ρ F K)->zJe ts vs F (λF=>zXO l ρ' F K):=by
   intro ts
   induction ts with
   | nil=>
    intro vs F h
    have h:yZE vs (zXO l ρ F K):=h
    obtain⟨rfl,g7⟩:=zZD h;replace h:=g7;exact hl _ h
   | cons ty ts ih=>
    intro vs F h
    have h:dHd vs λv r=>ty.take v λx=>zJe ts r (F x) λF=>zXO l ρ F K:=h
    obtain⟨v,r,rfl,g8⟩:=zJ8 h;replace h:=g8
    obtain⟨x,rfl,g9⟩:=Ty.take_elim h;replace h:=g9
    exact Ty.take_val (K:=λx=>zJe ts r (F x) λF=>zXO l ρ' F K) (ih r (F x) h)
  cases sh with
  | one ty=>
   have h:Ty.take ty (ρ' t) λx=>zXO l ρ (F x) K:=h
   show Ty.take ty (ρ' t) λx=>zXO l ρ' (F x) K
   obtain⟨x,hx,h⟩:=Ty.take_elim h
   rw[hx]
   exact Ty.take_val (K:=λx=>zXO l ρ' (F x) K) (hl (F x) h)
  | agg ts=>
   have h:yX5 (ρ' t) λvs=>zJe ts vs F λF=>zXO l ρ F K:=h
   obtain⟨vs,hv,h⟩:=zJy h
   show yX5 (ρ' t) λvs=>zJe ts vs F λF=>zXO l ρ' F K
   rw[hv]
   exact mono ts vs F h
  | row n=>
   have h:yYj (ρ' t) λcs=>zXO l ρ (F cs) K:=h
   obtain⟨cs,hv,h⟩:=zJu h
   show yYj (ρ' t) λcs=>zXO l ρ' (F cs) K
   rw[hv]
   exact hl _ h
def yXd:List Ty->Type->Type
 | [],X=>X
 | t :: ts,X=>t.T × yXd ts X
def yQL:List Ty->Type
 | []=>Unit
 | [t]=>t.T
 | t :: u :: ts=>t.T × yQL (u :: ts)
def Shp.cons:Shp->Type->Type
 | .one t,X=>t.T × X
 | .agg ts,X=>yXd ts X
 | .row _,X=>Array Value × X
def Shp.last:Shp->Type
 | .one t=>t.T
 | .agg ts=>yQL ts
 | .row _=>Array Value
def Tup:List zK2->Type
 | []=>Unit
 | [s]=>s.2.last
 | s :: u :: l=>s.2.cons (Tup (u :: l))
def zVf:(ts:List Ty)->yXd ts X->FnT ts Y->X × Y
 | [],r,F=>(r,F)
 | _ :: ts,p,F=>zVf ts p.2 (F p.1)
def zYu:(ts:List Ty)->yQL ts->FnT ts Y->Y
 | [],_,F=>F
 | [_],x,F=>F x
 | _ :: u :: ts,p,F=>zYu (u :: ts) p.2 (F p.1)
def Shp.unCons:(s:Shp)->s.cons X->s.F Y->X × Y
 | .one _,p,F=>(p.2,F p.1)
 | .agg ts,p,F=>zVf ts p F
 | .row _,p,F=>(p.2,F p.1)
def Shp.unLast:(s:Shp)->s.last->s.F Y->Y
 | .one _,x,F=>F x
 | .agg ts,x,F=>zYu ts x F
 | .row _,x,F=>F x
def unT:(V:List zK2)->Tup V->Fn V X->X
 | [],_,F=>F
 | [s],x,F=>Shp.unLast s.2 x F
 | s :: u :: l,x,F=>unT (u :: l) (Shp.unCons s.2 x F).1 (Shp.unCons s.2 x F).2
def zWT:(ts:List Ty)->((Y->yXd ts Y)->Z)->FnT ts Z
 | [],H=>H λy=>y
 | _ :: ts,H=>λx=>zWT ts λg=>H λy=>(x,g y)
def zWX:(ts:List Ty)->(yQL ts->Z)->FnT ts Z
 | [],H=>H ()
 | [_],H=>λx=>H x
 | _ :: u :: ts,H=>λx=>zWX (u :: ts) λr=>H (x,r)
def Shp.mkCons:(s:Shp)->((Y->s.cons Y)->Z)->s.F Z
 | .one _,H=>λx=>H λy=>(x,y)
 | .agg ts,H=>zWT ts H
 | .row _,H=>λx=>H λy=>(x,y)
def Shp.mkLast:(s:Shp)->(s.last->Z)->s.F Z
 | .one _,H=>λx=>H x
 | .agg ts,H=>zWX ts H
 | .row _,H=>λx=>H x
def mkT:(V:List zK2)->(Tup V->X)->Fn V X
 | [],k=>k ()
 | [s],k=>Shp.mkLast s.2 k
 | s :: u :: l,k=>Shp.mkCons s.2 λg=>mkT (u :: l) λr=>k (g r)
def setV(V:List zK2)(s:Tup V)(ρ:Env):Env:=unT V s (cur V (λρ=>ρ) ρ)
theorem zWO:∀{ts:List Ty} {p:yXd ts X},∃vs,∀{Y:Type} {H:List Value->Y},zVf ts p (yYi ts H)=((zVf ts p (yYi ts λ_=>())).1,H vs)
 | [],p=>⟨[],rfl⟩
 | t :: ts,p=>by
  obtain⟨vs,h⟩:=zWO (ts:=ts) (p:=p.2)
  exact⟨t.val p.1 :: vs,λ{Y H}=>h (H:=λvs=>H (t.val p.1 :: vs))⟩
theorem zW9:∀{ts:List Ty} {p:yQL ts},∃vs,∀{Y:Type} {H:List Value->Y},zYu ts p (yYi ts H)=H vs
 | [],p=>⟨[],rfl⟩
 | [t],x=>⟨[t.val x],rfl⟩
 | t :: u :: ts,p=>by
  obtain⟨vs,h⟩:=zW9 (ts:=u :: ts) (p:=p.2)
  exact⟨t.val p.1 :: vs,λ{Y H}=>h (H:=λvs=>H (t.val p.1 :: vs))⟩
theorem zV1{s:Shp}{p:s.cons X}:∃r v,∀{Y:Type} {H:Value->Y},s.unCons p (s.cur H)=(r,H v):=by
 cases s with
 | one t=>exact⟨p.2,t.val p.1,rfl⟩
 | agg ts=>obtain⟨vs,h⟩:=zWO (ts:=ts) (p:=p);exact⟨_,.agg vs.toArray,h⟩
 | row n=>exact⟨p.2,.agg p.1,rfl⟩
theorem zV4{s:Shp}{p:s.last}:∃v,∀{Y:Type} {H:Value->Y},s.unLast p (s.cur H)=H v:=by
 cases s with
 | one t=>exact⟨t.val p,rfl⟩
 | agg ts=>obtain⟨vs,h⟩:=zW9 (ts:=ts) (p:=p);exact⟨.agg vs.toArray,h⟩
 | row n=>exact⟨.agg p,rfl⟩
theorem xX6:∀{V:List zK2} {s:Tup V} {X:Type} {G:Env->X} {ρ:Env},unT V s (cur V G ρ)=G (setV V s ρ)
 | [],_,_,_,_=>rfl
 | [s],x,X,G,ρ=>by
  obtain⟨v,h⟩:=zV4 (s:=s.2) (p:=x)
  show s.2.unLast x (s.2.cur λv=>G (zKn ρ s.1 v))=G (s.2.unLast x (s.2.cur λv=>zKn ρ s.1 v))
  rw[h,h]
 | s :: u :: l,x,X,G,ρ=>by
  obtain⟨r,v,h⟩:=zV1 (s:=s.2) (p:=x)
  show unT (u :: l) (s.2.unCons x (s.2.cur λv=>cur (u :: l) G (zKn ρ s.1 v))).1 (s.2.unCons x (s.2.cur λv=>cur (u :: l) G (zKn ρ s.1 v))).2=G (unT (u :: l) (s.2.unCons x (s.2.cur λv=>cur (u :: l) (λρ=>ρ) (zKn ρ s.1 v))).1 (s.2.unCons x (s.2.cur λv=>cur (u :: l) (λρ=>ρ) (zKn ρ s.1 v))).2)
  rw[h,h]
  exact xX6 (V:=u :: l)
theorem zVF:∀{V:List zK2} {s:Tup V} {ρ ρ':Env} {t:Nat},(t ∈ V.map Prod.fst∨ρ t=ρ' t)->setV V s ρ t=setV V s ρ' t
 | [],_,_,_,_,h=>h.elim (λh=>by cases h) id
 | [s],x,ρ,ρ',t,h=>by
  obtain⟨v,hv⟩:=zV4 (s:=s.2) (p:=x)
  show s.2.unLast x (s.2.cur λv=>zKn ρ s.1 v) t=s.2.unLast x (s.2.cur λv=>zKn ρ' s.1 v) t
  rw[hv,hv]
  unfold zKn
  cases hb:Nat.beq t s.1 with
  | true=>rfl
  | false=>
   rcases h with h|h
   ·simp only[List.map_cons,List.map_nil,List.mem_singleton]at h
    rw[h,Nat.beq_refl]at hb;cases hb
   ·exact h
 | s :: u :: l,x,ρ,ρ',t,h=>by
  obtain⟨r,v,hv⟩:=zV1 (s:=s.2) (p:=x)
  show unT (u :: l) (s.2.unCons x (s.2.cur λv=>cur (u :: l) (λρ=>ρ) (zKn ρ s.1 v))).1 (s.2.unCons x (s.2.cur λv=>cur (u :: l) (λρ=>ρ) (zKn ρ s.1 v))).2 t=unT (u :: l) (s.2.unCons x (s.2.cur λv=>cur (u :: l) (λρ=>ρ) (zKn ρ' s.1 v))).1 (s.2.unCons x (s.2.cur λv=>cur (u :: l) (λρ=>ρ) (zKn ρ' s.1 v))).2 t
  rw[hv,hv]
  refine zVF (V:=u :: l) (s:=r) (ρ:=zKn ρ s.1 v) (ρ':=zKn ρ' s.1 v) ?_
  unfold zKn
  cases hb:Nat.beq t s.1 with
  | true=>exact .inr rfl
  | false=>
   rcases h with h|h
   ·rw[List.map_cons,List.mem_cons]at h
    rcases h with h|h
    ·rw[h,Nat.beq_refl]at hb;cases hb
    ·exact .inl h
   ·exact .inr h
theorem zKT:∀{ts:List Ty} {l:List Value} {H:(X->yXd ts X)->Z} {K:Z->Prop},zJe ts l (zWT ts H) K->∃g:X->yXd ts X,K (H g)/\∀x {Y:Type} {G:List Value->Y},zVf ts (g x) (yYi ts G)=(x,G l)
 | [],l,H,K,h=>by
  have h:yZE l (K (H λy=>y)):=h
  obtain⟨rfl,g10⟩:=zZD h;replace h:=g10;exact⟨_,h,λx=>rfl⟩
 | t :: ts,l,H,K,h=>by
  have h:dHd l λv l=>t.take v λx=>zJe ts l (zWT ts λg=>H λy=>(x,g y)) K:=h
  obtain⟨v,r,rfl,g11⟩:=zJ8 h;replace h:=g11
  obtain⟨x,rfl,g12⟩:=Ty.take_elim h;replace h:=g12
  obtain⟨g,h1,h2⟩:=zKT (ts:=ts) (H:=λg=>H λy=>(x,g y)) h
  exact⟨_,h1,λy {Y G}=>h2 y (G:=λvs=>G (t.val x :: vs))⟩
theorem zKX:∀{ts:List Ty} {l:List Value} {H:yQL ts->Z} {K:Z->Prop},zJe ts l (zWX ts H) K->∃g:yQL ts,K (H g)/\∀{Y:Type} {G:List Value->Y},zYu ts g (yYi ts G)=G l
 | [],l,H,K,h=>by
  have h:yZE l (K (H ())):=h
  obtain⟨rfl,g13⟩:=zZD h;replace h:=g13;exact⟨(),h,rfl⟩
 | [t],l,H,K,h=>by
  have h:dHd l λv l=>t.take v λx=>yZE l (K (H x)):=h
  obtain⟨v,r,rfl,g14⟩:=zJ8 h;replace h:=g14
  obtain⟨x,rfl,g15⟩:=Ty.take_elim h;replace h:=g15
  obtain⟨rfl,g16⟩:=zZD h;replace h:=g16
  exact⟨x,h,rfl⟩
 | t :: u :: ts,l,H,K,h=>by
  have h:dHd l λv l=>t.take v λx=>zJe (u :: ts) l (zWX (u :: ts) λr=>H (x,r)) K:=h
  obtain⟨v,r,rfl,g17⟩:=zJ8 h;replace h:=g17
  obtain⟨x,rfl,g18⟩:=Ty.take_elim h;replace h:=g18
  obtain⟨g,h1,h2⟩:=zKX (ts:=u :: ts) (H:=λr=>H (x,r)) h
  exact⟨_,h1,λ{Y G}=>h2 (G:=λvs=>G (t.val x :: vs))⟩
theorem yXx {s:Shp} {v:Value} {H:(X->s.cons X)->Z} {K:Z->Prop} (h:Shp.take s v (s.mkCons H) K):∃g:X->s.cons X,K (H g)/\∀x {Y:Type} {G:Value->Y},s.unCons (g x) (s.cur G)=(x,G v):=by
 cases s with
 | one t=>
  have h:Ty.take t v λx=>K (H λy=>(x,y)):=h
  obtain⟨x,rfl,g19⟩:=Ty.take_elim h;replace h:=g19;exact⟨_,h,λy=>rfl⟩
 | agg ts=>
  have h:yX5 v λl=>zJe ts l (zWT ts H) K:=h
  obtain⟨l,rfl,g20⟩:=zJy h;replace h:=g20
  obtain⟨g,h1,h2⟩:=zKT h;exact⟨g,h1,λx {Y G}=>h2 x (G:=λvs=>G (.agg vs.toArray))⟩
 | row n=>
  have h:yYj v λx=>K (H λy=>(x,y)):=h
  obtain⟨cs,rfl,g21⟩:=zJu h;replace h:=g21;exact⟨_,h,λy=>rfl⟩
theorem yXo {s:Shp} {v:Value} {H:s.last->Z} {K:Z->Prop} (h:Shp.take s v (s.mkLast H) K):∃g:s.last,K (H g)/\∀{Y:Type} {G:Value->Y},s.unLast g (s.cur G)=G v:=by
 cases s with
 | one t=>
  have h:Ty.take t v λx=>K (H x):=h
  obtain⟨x,rfl,g22⟩:=Ty.take_elim h;replace h:=g22;exact⟨_,h,rfl⟩
 | agg ts=>
  have h:yX5 v λl=>zJe ts l (zWX ts H) K:=h
  obtain⟨l,rfl,g23⟩:=zJy h;replace h:=g23
  obtain⟨g,h1,h2⟩:=zKX h;exact⟨g,h1,λ{Y G}=>h2 (G:=λvs=>G (.agg vs.toArray))⟩
 | row n=>
  have h:yYj v λx=>K (H x):=h
  obtain⟨cs,rfl,g24⟩:=zJu h;replace h:=g24;exact⟨_,h,rfl⟩
theorem zYr:∀{V:List zK2} {ρ:Env} {X:Type} {k:Tup V->X} {K:X->Prop},zXO V ρ (mkT V k) K->∃s,setV V s ρ=ρ/\K (k s)
 | [],ρ,X,k,K,h=>⟨(),rfl,h⟩
 | [s],ρ,X,k,K,h=>by
  obtain⟨g,h1,h2⟩:=yXo (s:=s.2) (K:=K) h
  refine⟨g,?_,h1⟩
  show s.2.unLast g (s.2.cur λv=>zKn ρ s.1 v)=ρ
  rw[h2];exact zKq rfl
 | s :: u :: l,ρ,X,k,K,h=>by
  obtain⟨g,h1,h2⟩:=yXx (s:=s.2) (K:=λF=>zXO (u :: l) ρ F K) h
  obtain⟨r,h3,h4⟩:=zYr (V:=u :: l) h1
  refine⟨g r,?_,h4⟩
  show unT (u :: l) (s.2.unCons (g r) (s.2.cur λv=>cur (u :: l) (λρ=>ρ) (zKn ρ s.1 v))).1 (s.2.unCons (g r) (s.2.cur λv=>cur (u :: l) (λρ=>ρ) (zKn ρ s.1 v))).2=ρ
  rw[h2,zKq rfl]
  exact h3
abbrev DW:=Ds->World->Prop
def hdC:List Code->Code
 | []=>.skip
 | c :: _=>c
def Kof(l:List zK2)(F:Fn l DW):EP:=λρ ds w=>zXO l ρ F λ(p:DW)=>p ds w
def POk(P:Program)(n:Nat)(items:List Code)(Q:EQ)(l:List zK2)(F:Fn l DW):Prop:=
 zJF n items=true->∀ρ ds w,Kof l F ρ ds w->TrL P n items Q ρ ds w
def Rest(P:Program)(n:Nat)(items:List Code)(Q:EQ)(K:EP):Prop:=
 zJF n items=true->∀ρ ds w,K ρ ds w->TrL P n items Q ρ ds w
variable {n : Nat} {items : List Code} {Q : EQ} {l : List zK2} {F : Fn l DW} {K : EP}
theorem yKc{ρ:Env}{ds:Ds}{w:World}{G:EP}(e:∀ρ,F=cur l G ρ)(h:Kof l F ρ ds w):G ρ ds w:=by
 have h:zXO l ρ F λ(p:DW)=>p ds w:=h
 rw[e ρ]at h
 exact take_cur (K:=λ(p:DW)=>p ds w) h
theorem zXs(h:items.isEmpty=true:=by kernel_rfl):Rest P n items Q (Q .normal):=λ_ ρ ds w hK=>by
 cases items with
 | nil=>exact hK
 | cons c cs=>cases h
theorem zQz(l:List zK2)(F:Fn l DW)(h:POk P n items Q l F):Rest P n items Q (Kof l F):=h
theorem yQh {a b:List Code} (h:zJF n (a ++ b)=true):zJF n a=true/\zJF n b=true:=by
 simpa[zJF,List.all_append] using h
theorem zKH:∀{c:Code},zKb n c=true->zJF n (zVm c)=true:=by
 intro c
 induction c with
 | seq x y ihx ihy=>
  intro h
  simp only[zKb,Bool.and_eq_true]at h
  have h1:=ihx h.1
  have h2:=ihy h.2
  show zJF n (zVm x ++ zVm y)=true
  simp only[zJF,List.all_append,Bool.and_eq_true]at h1 h2 ⊢
  exact⟨h1,h2⟩
 | _=>intro h;simp only[zVm,zJF,List.all_cons,List.all_nil,Bool.and_true];exact h
theorem lf (e:∀ρ,F=cur l (ptL P items Q) ρ:=by intro _;kernel_rfl):POk P n items Q l F:=λhf ρ ds w h=>zKI hf (yKc e h)
theorem pc (k:Nat) (hr:Rest P n (items.drop k) Q K) (e:∀ρ,F=cur l (ptL P (items.take k) (zJL K Q)) ρ:=by intro _;kernel_rfl):POk P n items Q l F:=λhf ρ ds w h=>by
 rw[←List.take_append_drop k items]at hf ⊢
 obtain⟨h1,h2⟩:=yQh hf
 exact yY8 h1 (yKc e h) λρ' ds' w' _ _ hK=>hr h2 ρ' ds' w' hK
def blkB(id:Nat):Code->Bool
 | .block j _=>Nat.beq j id
 | _=>false
def lpB(c:Code)(V lb:List zK2):Bool:=match c with
 | .loop b=>zXu b && lb.all λs=>!(zWN b s.1) || V.any λv=>Nat.beq v.1 s.1
 | _=>false
theorem bk (id:Nat) (hr:Rest P n items.tail Q K) (h:POk P n (zVm (xQY (hdC items))) (zYC id (zJL K Q)) l F) (hb:blkB id (hdC items)=true:=by kernel_rfl):POk P n items Q l F:=λhf ρ ds w hK=>by
 cases items with
 | nil=>cases hb
 | cons c cs=>
  simp only[zJF,List.all_cons,Bool.and_eq_true]at hf
  cases c with
  | block j b=>
   have hj:=Nat.eq_of_beq_eq_true hb
   subst hj
   exact yX0 (K:=K) (yYg (c:=b) rfl rfl (h (zKH (c:=b) hf.1) ρ ds w hK)) λρ' ds' w' hk=>hr hf.2 ρ' ds' w' hk
  | _=>cases hb
theorem lp (V lb:List zK2) (Fb:(Tup V->World->Prop)->Fn lb DW) (hr:Rest P n items.tail Q K)
  (h:∀J,POk P n (zVm (xQY (hdC items))) (zJL (λρ _ w=>zXO V ρ (mkT V λs=>s) λs=>J s w) (zJL K Q)) lb (Fb J))
  (hc:lpB (hdC items) V lb=true:=by kernel_rfl) (e:∀ρ,F=cur l (λρ ds w=>zXO V ρ (mkT V λs=>s) λs=>zQ8 (λJ s w=>unT V s (cur V (λρ=>Kof lb (Fb J) ρ ds w) ρ)) s w) ρ:=by intro _;kernel_rfl):POk P n items Q l F:=λhf ρ ds w hK=>by
 cases items with
 | nil=>cases hc
 | cons c cs=>
  simp only[zJF,List.all_cons,Bool.and_eq_true]at hf
  cases c with
  | loop b=>
   simp only[hdC,lpB,Bool.and_eq_true]at hc
   obtain⟨hnd,hlb⟩:=hc
   obtain⟨s0,hs0,hL⟩:=zYr (yKc e hK)
   refine yX0 (K:=K) (yYA (c:=b) (σ:=Tup V) (enc:=λs ρ=>setV V s ρ=ρ) (D:=λρ K=>zXO V ρ (mkT V λs=>s) K) (s0:=s0) rfl rfl hs0 hnd (λρ K h=>zYr h) (λJ s ρ' w' he ha hF=>?_) hL) λρ' ds' w' hk=>hr hf.2 ρ' ds' w' hk
   rw[xX6]at hF
   refine h J (zKH (c:=b) hf.1) ρ' ds w' (zW7 (λt ht=>?_) hF)
   rw[←he]
   refine zVF ?_
   have h1:=List.all_eq_true.1 hlb t ht
   simp only[Bool.or_eq_true,Bool.not_eq_true',List.any_eq_true]at h1
   rcases h1 with h1|⟨v,hv,hb⟩
   ·exact .inr (ha t.1 h1).symm
   ·exact .inl (List.mem_map.2 ⟨v,hv,Nat.eq_of_beq_eq_true hb⟩)
  | _=>cases hc
abbrev Pl(P:Program)(fn:Func)(l:List zK2)(F:Rt->Fn l DW):Prop:=∀R,POk P fn.ntmps (zVm (zJr fn)) (endQ P fn.results.toList R) l (F R)
def topB(fn:Func)(k:Nat):Bool:=fn.body.isSome && (zKb fn.ntmps (zJr fn) && Nat.ble k fn.ntmps)
theorem zYP{fn:Func}{k:Nat}(h:topB fn k=true):fn.body=some (zJr fn)/\zJF fn.ntmps (zVm (zJr fn))=true/\k<=fn.ntmps:=by
 simp only[topB,Bool.and_eq_true]at h
 refine⟨?_,zKH h.2.1,Nat.le_of_ble_eq_true h.2.2⟩
 unfold zJr
 cases hb:fn.body with
 | none=>rw[hb]at h;cases h.1
 | some c=>rfl
theorem plC {f:FuncId} {fn:Func} {F:Rt->Fn l DW} {args:Array Value} {R:Rt} {w:World} {X:Prop} (h:Pl P fn l F) (hf:P.funcs[f]?=some fn) (hX:X) (hb:topB fn args.size=true:=by kernel_rfl) (e:X=Kof l (F R) (zKP args.toList) [] w:=by kernel_rfl):Calls P f args w R:=by
 obtain⟨h1,h2,h3⟩:=zYP hb
 exact yJL hf h1 h3 rfl (h R h2 _ _ _ (e ▸ hX))
theorem plD {f:FuncId} {fn:Func} {F:Rt->Fn l DW} {args:Array Value} {R:Rt} {w:World} {X:Prop} (h:Pl P fn l F) (hf:P.funcs[f]?=some fn) (u:FrameMode) (hX:X) (hb:(topB fn args.size && zXu (zJr fn))=true:=by kernel_rfl) (e:X=Kof l (F R) (zKP args.toList) [] w:=by kernel_rfl) :
  CallsD P f args u w λe u' w'=>u'=u/\R e w':=by
 simp only[Bool.and_eq_true]at hb
 obtain⟨h1,h2,h3⟩:=zYP hb.1
 exact yQ9 hf h1 h3 hb.2 rfl (h R h2 _ _ _ (e ▸ hX)) u
abbrev iS(t:Nat):zK2:=(t,.one (.int .i64))
abbrev kS(k:IntKind)(t:Nat):zK2:=(t,.one (.int k))
abbrev bS(t:Nat):zK2:=(t,.one .bool)
abbrev sS(t:Nat):zK2:=(t,.one .str)
abbrev pS(t:Nat):zK2:=(t,.one .ptr)
abbrev lS(t:Nat):zK2:=(t,.one .slice)
abbrev mS(t:Nat):zK2:=(t,.one .map)
abbrev vS(t:Nat):zK2:=(t,.one .any)
abbrev aS(t:Nat)(ts:List Ty):zK2:=(t,.agg ts)
end Go.Sh
