import Derived.Test.YtaeecpjhfmcliaaGreatDoorShSix
/- Code: the shallow semantics 'ptE', triples 'Tr', the rules that join them, and a function's call. For every program. -/
namespace Go.Sh
variable {P : Program}
def Br'(v:Value)(X Y:Prop):Prop:=yXG v λb=>Br b X Y
def zKe(K:EP)(Q:EQ):EQ
 | .normal=>K
 | e=>Q e
def yZk(id:Nat)(Q:EQ):EQ
 | .exit j=>cond (Nat.beq j id) (Q .normal) (Q (.exit j))
 | e=>Q e
def ptE(P:Program):Code->EQ->EP
 | .skip,Q=>Q .normal
 | .region _ ops draw,Q=>match draw with
  | false=>opsE P ops (Q .normal) ops.toList
  | true=>xXB P ops (Q .normal)
 | .seq x y,Q=>ptE P x (zKe (ptE P y Q) Q)
 | .cond c x y,Q=>λρ ds w=>Br' (ev ρ c) (ptE P x Q ρ ds w) (ptE P y Q ρ ds w)
 | .block id c,Q=>ptE P c (yZk id Q)
 | .scope c,Q=>ptE P c Q
 | .exit id,Q=>Q (.exit id)
 | .ret,Q=>Q .ret
 | _,_=>λ_ _ _=>False
def zY1:Code->Nat->Bool
 | .region _ ops _,t=>zZe ops.toList t
 | .seq x y,t=>zY1 x t || zY1 y t
 | .cond _ x y,t=>zY1 x t || zY1 y t
 | .block _ c,t=>zY1 c t
 | .loop c,t=>zY1 c t
 | .scope c,t=>zY1 c t
 | _,_=>false
def zX0:Code->Bool
 | .region _ ops _=>zXg ops.toList
 | .seq x y=>zX0 x && zX0 y
 | .cond _ x y=>zX0 x && zX0 y
 | .block _ c=>zX0 c
 | .loop c=>zX0 c
 | .scope c=>zX0 c
 | _=>true
def zWk(n:Nat):Code->Bool
 | .region _ ops _=>zWY n ops
 | .seq x y=>zWk n x && zWk n y
 | .cond _ x y=>zWk n x && zWk n y
 | .block _ c=>zWk n c
 | .loop c=>zWk n c
 | .scope c=>zWk n c
 | _=>true
def Tr(P:Program)(n:Nat)(c:Code)(Q:EQ)(ρ:Env)(ds:List Deferred)(w:World):Prop:=
 ∀a:Act,a.tmps.size=n->zQB a=ρ->a.defers=ds->c.wp P (λe a' w'=>lift n Q e a' w'/\zXF (zY1 c) (zX0 c) a a') a w
theorem zKo{n:Nat}{c:Code}{Q Q':EQ}{ρ:Env}{ds:List Deferred}{w:World}
  (hq:∀e ρ' ds' w',(∀t,zY1 c t=false->ρ' t=ρ t)->(zX0 c=true->ds'=ds)->Q e ρ' ds' w'->Q' e ρ' ds' w') (h:Tr P n c Q ρ ds w):Tr P n c Q' ρ ds w:=λa hs he hd=>
 wp_mono (h a hs he hd) λe a' w' ⟨h1,h2⟩=>by
  refine⟨?_,h2⟩
  have key:Q e (zQB a') a'.defers w'->Q' e (zQB a') a'.defers w':=hq e _ _ _ (λt ht=>by rw[←he];exact h2.slots t ht) (λhn=>by rw[←hd];exact h2.defers hn)
  cases e <;> first|exact h1.elim|exact⟨h1.1,key h1.2⟩
theorem xVe {n:Nat} {x y:Code} {Q:EQ} {ρ:Env} {ds:List Deferred} {w:World} (h:Tr P n x (zKe (Tr P n y Q) Q) ρ ds w):Tr P n (.seq x y) Q ρ ds w:=λa hs he hd=>
 wp_seq (wp_mono (h a hs he hd) λe a' w' ⟨h1,h2⟩=>by
  have hw:zXF (zY1 (.seq x y)) (zX0 (.seq x y)) a a':=h2.weaken (λt ht=>by simp only[zY1,Bool.or_eq_false_iff]at ht;exact ht.1) (λhn=>by simp only[zX0,Bool.and_eq_true]at hn;exact hn.1)
  cases e with
  | normal=>
   refine wp_mono (h1.2 a' h1.1 rfl rfl) λe a'' w'' ⟨h3,h4⟩=>⟨h3,hw.trans (h4.weaken (λt ht=>?_) λhn=>?_)⟩
   ·simp only[zY1,Bool.or_eq_false_iff]at ht;exact ht.2
   ·simp only[zX0,Bool.and_eq_true]at hn;exact hn.2
  | _=>first|exact h1.elim|exact⟨h1,hw⟩)
theorem xQh {n:Nat} {c:Operand} {x y:Code} {Q:EQ} {ρ:Env} {ds:List Deferred} {w:World} (h:Br' (ev ρ c) (Tr P n x Q ρ ds w) (Tr P n y Q ρ ds w)):Tr P n (.cond c x y) Q ρ ds w:=λa hs he hd=>by
 unfold Br' yXG at h
 split at h
 case h_2=>exact h.elim
 rename_i b hb
 rw[←he,zVY]at hb
 cases b with
 | true=>
  refine wp_cond_true hb (wp_mono (h a hs he hd) λe a' w' ⟨h1,h2⟩=>⟨h1,h2.weaken (λt ht=>?_) λhn=>?_⟩)
  ·simp only[zY1,Bool.or_eq_false_iff]at ht;exact ht.1
  ·simp only[zX0,Bool.and_eq_true]at hn;exact hn.1
 | false=>
  refine wp_cond_false hb (wp_mono (h a hs he hd) λe a' w' ⟨h1,h2⟩=>⟨h1,h2.weaken (λt ht=>?_) λhn=>?_⟩)
  ·simp only[zY1,Bool.or_eq_false_iff]at ht;exact ht.2
  ·simp only[zX0,Bool.and_eq_true]at hn;exact hn.2
theorem yKv {n id:Nat} {c:Code} {Q:EQ} {ρ:Env} {ds:List Deferred} {w:World} (h:Tr P n c (yZk id Q) ρ ds w):Tr P n (.block id c) Q ρ ds w:=λa hs he hd=>
 wp_block (wp_mono (h a hs he hd) λe a' w' ⟨h1,h2⟩=>by
  have xR:zXF (zY1 (.block id c)) (zX0 (.block id c)) a a':=h2
  cases e with
  | exit j=>
   simp only[lift,yZk]at h1
   simp only[Exit.inBlock]
   by_cases hj:j=id
   ·subst hj
    rw[if_pos rfl]
    have:Nat.beq j j=true:=Nat.beq_refl j
    rw[this]at h1
    exact⟨⟨h1.1,h1.2⟩,xR⟩
   ·rw[if_neg hj]
    have:Nat.beq j id=false:=by cases hb:Nat.beq j id;rfl;exact absurd (Nat.eq_of_beq_eq_true hb) hj
    rw[this]at h1
    exact⟨⟨h1.1,h1.2⟩,xR⟩
  | _=>exact⟨h1,xR⟩)
theorem yKi{n:Nat}{c:Code}{Q:EQ}{ρ:Env}{ds:List Deferred}{w:World}(h:Tr P n c Q ρ ds w):Tr P n (.scope c) Q ρ ds w:=λa hs he hd=>
 wp_scope_straight (wp_mono (h a hs he hd) λe a' w' ⟨h1,h2⟩=>by
  have xR:zXF (zY1 (.scope c)) (zX0 (.scope c)) a a':=h2
  cases e with
  | goto l=>exact h1.elim
  | _=>exact⟨h1,xR⟩)
theorem zZR{n:Nat}:∀{c:Code} {Q:EQ} {ρ:Env} {ds:List Deferred} {w:World},zWk n c=true->ptE P c Q ρ ds w->Tr P n c Q ρ ds w
 | .skip,Q,ρ,ds,w,_,h=>λa hs he hd=>wp_skip ⟨⟨hs,by rw[he,hd];exact h⟩,zXF.refl _ _ _⟩
 | .region id ops false,Q,ρ,ds,w,hf,h=>λa hs he hd=>by
  subst he;subst hd
  exact wp_region_list (yQj hf ops.toList (λ_ h=>h) a w hs h λa' w' hA hK=>⟨⟨hA.size.trans hs,hK⟩,hA⟩)
 | .region id ops true,Q,ρ,ds,w,hf,h=>λa hs he hd=>by
  subst he;subst hd
  exact yZa hf (λc a w h=>h.1.elim) hs (λa' w' hA hK=>⟨⟨hA.size.trans hs,hK⟩,hA⟩) h
 | .seq x y,Q,ρ,ds,w,hf,h=>by
  simp only[zWk,Bool.and_eq_true]at hf
  refine xVe (zKo (λe ρ' ds' w' _ _ hq=>?_) (zZR hf.1 h))
  cases e with
  | normal=>exact zZR hf.2 hq
  | _=>exact hq
 | .cond c x y,Q,ρ,ds,w,hf,h=>by
  simp only[zWk,Bool.and_eq_true]at hf
  refine xQh ?_
  have h:Br' (ev ρ c) (ptE P x Q ρ ds w) (ptE P y Q ρ ds w):=h
  unfold Br' yXG at h ⊢
  split at h
  case h_2=>exact h.elim
  rename_i b hb
  cases b with
  | true=>exact zZR hf.1 h
  | false=>exact zZR hf.2 h
 | .block id c,Q,ρ,ds,w,hf,h=>yKv (zZR hf h)
 | .scope c,Q,ρ,ds,w,hf,h=>yKi (zZR hf h)
 | .exit id,Q,ρ,ds,w,_,h=>λa hs he hd=>wp_exit ⟨⟨hs,by rw[he,hd];exact h⟩,zXF.refl _ _ _⟩
 | .ret,Q,ρ,ds,w,_,h=>λa hs he hd=>wp_ret ⟨⟨hs,by rw[he,hd];exact h⟩,zXF.refl _ _ _⟩
def zVc:Code->List Code
 | .seq x y=>zVc x ++ zVc y
 | c=>[c]
def ptL(P:Program):List Code->EQ->EP
 | [],Q=>Q .normal
 | c :: cs,Q=>ptE P c (zKe (ptL P cs Q) Q)
def TrL(P:Program)(n:Nat):List Code->EQ->EP
 | [],Q=>Q .normal
 | c :: cs,Q=>Tr P n c (zKe (TrL P n cs Q) Q)
def zKf(n:Nat)(cs:List Code):Bool:=cs.all (zWk n)
def asgL(cs:List Code)(t:Nat):Bool:=cs.any λc=>zY1 c t
def yJU(cs:List Code):Bool:=cs.all zX0
theorem yK5{n:Nat}:∀{cs:List Code} {Q Q':EQ} {ρ:Env} {ds:List Deferred} {w:World},
  (∀e ρ' ds' w',(∀t,asgL cs t=false->ρ' t=ρ t)->(yJU cs=true->ds'=ds)->Q e ρ' ds' w'->Q' e ρ' ds' w')->TrL P n cs Q ρ ds w->TrL P n cs Q' ρ ds w
 | [],_,_,_,_,_,hq,h=>hq .normal _ _ _ (λ_ _=>rfl) (λ_=>rfl) h
 | c :: cs,Q,Q',ρ,ds,w,hq,h=>zKo (λe ρ' ds' w' h1 h2 hk=>by
   cases e with
   | normal=>
    refine yK5 (λe ρ'' ds'' w'' h3 h4 hk=>hq e ρ'' ds'' w'' (λt ht=>?_) (λhn=>?_) hk) hk
    ·simp only[asgL,List.any_cons,Bool.or_eq_false_iff]at ht
     exact(h3 t ht.2).trans (h1 t ht.1)
    ·simp only[yJU,List.all_cons,Bool.and_eq_true]at hn
     exact(h4 hn.2).trans (h2 hn.1)
   | _=>
    refine hq _ _ _ _ (λt ht=>?_) (λhn=>?_) hk
    ·simp only[asgL,List.any_cons,Bool.or_eq_false_iff]at ht;exact h1 t ht.1
    ·simp only[yJU,List.all_cons,Bool.and_eq_true]at hn;exact h2 hn.1) h
theorem yQl{n:Nat}:∀{xs ys:List Code} {Q:EQ} {ρ:Env} {ds:List Deferred} {w:World},TrL P n xs (zKe (TrL P n ys Q) Q) ρ ds w->TrL P n (xs ++ ys) Q ρ ds w
 | [],_,_,_,_,_,h=>h
 | c :: xs,ys,Q,ρ,ds,w,h=>zKo (λe ρ' ds' w' _ _ hk=>by
   cases e with
   | normal=>exact yQl hk
   | _=>exact hk) h
theorem zWs{n:Nat}:∀{c:Code} {Q:EQ} {ρ:Env} {ds:List Deferred} {w:World},TrL P n (zVc c) Q ρ ds w->Tr P n c Q ρ ds w:=by
 have one:∀{c:Code} {Q:EQ} {ρ:Env} {ds:List Deferred} {w:World},TrL P n [c] Q ρ ds w->Tr P n c Q ρ ds w:=λh=>
  zKo (λe ρ' ds' w' _ _ hk=>by cases e <;> exact hk) h
 intro c
 induction c with
 | seq x y ihx ihy=>
  intro Q ρ ds w h
  have h:TrL P n (zVc x ++ zVc y) Q ρ ds w:=h
  have split:∀(xs:List Code) {ρ:Env} {ds:List Deferred} {w:World},TrL P n (xs ++ zVc y) Q ρ ds w->TrL P n xs (zKe (TrL P n (zVc y) Q) Q) ρ ds w:=by
   intro xs
   induction xs with
   | nil=>intro ρ ds w h;exact h
   | cons c xs ih=>
    intro ρ ds w h
    refine zKo (λe ρ' ds' w' _ _ hk=>?_) h
    cases e with
    | normal=>exact ih hk
    | _=>exact hk
  refine xVe (zKo (λe ρ' ds' w' _ _ hk=>?_) (ihx (split _ h)))
  cases e with
  | normal=>exact ihy hk
  | _=>exact hk
 | _=>intro Q ρ ds w h;exact one h
theorem zVg{n:Nat}:∀{cs:List Code} {Q:EQ} {ρ:Env} {ds:List Deferred} {w:World},zKf n cs=true->ptL P cs Q ρ ds w->TrL P n cs Q ρ ds w
 | [],_,_,_,_,_,h=>h
 | c :: cs,Q,ρ,ds,w,hf,h=>by
  simp only[zKf,List.all_cons,Bool.and_eq_true]at hf
  refine zKo (λe ρ' ds' w' _ _ hk=>?_) (zZR hf.1 h)
  cases e with
  | normal=>exact zVg hf.2 hk
  | _=>exact hk
theorem xZJ {n:Nat} {pre suf:List Code} {K:EP} {Q:EQ} {ρ:Env} {ds:List Deferred} {w:World} (hf:zKf n pre=true) (h:ptL P pre (zKe K Q) ρ ds w)
  (hk:∀ρ' ds' w',(∀t,asgL pre t=false->ρ' t=ρ t)->(yJU pre=true->ds'=ds)->K ρ' ds' w'->TrL P n suf Q ρ' ds' w'):TrL P n (pre ++ suf) Q ρ ds w:=
 yQl (yK5 (λe ρ' ds' w' h1 h2 hq=>by
  cases e with
  | normal=>exact hk ρ' ds' w' h1 h2 hq
  | _=>exact hq) (zVg hf h))
theorem xZT {n:Nat} {c:Code} {suf:List Code} {K:EP} {Q:EQ} {ρ:Env} {ds:List Deferred} {w:World} (h:Tr P n c (zKe K Q) ρ ds w)
  (hk:∀ρ' ds' w',(∀t,zY1 c t=false->ρ' t=ρ t)->(zX0 c=true->ds'=ds)->K ρ' ds' w'->TrL P n suf Q ρ' ds' w'):TrL P n (c :: suf) Q ρ ds w:=
 zKo (λe ρ' ds' w' h1 h2 hq=>by
  cases e with
  | normal=>exact hk ρ' ds' w' h1 h2 hq
  | _=>exact hq) h
def zQA {σ:Type} (F:(σ->World->Prop)->σ->World->Prop) (s:σ) (w:World):Prop:=∀J:σ->World->Prop,(∀s w,F J s w->J s w)->J s w
theorem xY5 {n:Nat} {c:Code} {Q:EQ} {σ:Type} {enc:σ->Env->Prop} {D:Env->(σ->Prop)->Prop} {F:(σ->World->Prop)->σ->World->Prop} {ρ0:Env} {ds:List Deferred} {s0:σ} {w0:World}
  (h0:enc s0 ρ0) (hnd:zX0 c=true) (hD:∀ρ K,D ρ K->∃s,enc s ρ/\K s)
  (hbody:∀(J:σ->World->Prop) s ρ w,enc s ρ->(∀t,zY1 c t=false->ρ t=ρ0 t)->F J s w->Tr P n c (zKe (λρ' _ w'=>D ρ' λs'=>J s' w') Q) ρ ds w)
  (h:zQA F s0 w0):Tr P n (.loop c) Q ρ0 ds w0:=λa hs he hd=>by
 have key:=h (λs w=>∀a':Act,a'.tmps.size=n->enc s (zQB a')->zXF (zY1 c) (zX0 c) a a'->∀(b:Frame) (k:List Item) (cs:List Frame),
   ∃e a'' w',(lift n Q e a'' w'/\zXF (zY1 c) (zX0 c) a a'')/\Arrives P (lone (b.at a' (.code c :: .inLoop c :: k)) cs w) b k cs e a'' w') ?_
 ·intro b k cs
  obtain⟨e,a',w',hq,harr⟩:=key a hs (by rw[he];exact h0) (zXF.refl _ _ _) b k cs
  exact⟨e,a',w',hq,.of_steps (.one step_loop) harr⟩
 ·intro s w hF a' hs' he' hA b k cs
  have hT:=hbody _ s (zQB a') w he' (λt ht=>by rw[←he];exact hA.slots t ht) hF a' hs' rfl (by rw[←hd];exact hA.defers hnd) b (.inLoop c :: k) cs
  obtain⟨e,a₁,w₁,⟨hq,hA1⟩,harr⟩:=hT
  cases e with
  | normal=>
   obtain⟨s',rU,hJ⟩:=hD _ _ hq.2
   obtain⟨e₂,a₂,w₂,hq₂,harr₂⟩:=hJ a₁ hq.1 rU (hA.trans hA1) b k cs
   exact⟨e₂,a₂,w₂,hq₂,.of_steps (Steps.trans harr (.one step_inLoop)) harr₂⟩
  | exit id=>exact⟨.exit id,a₁,w₁,⟨⟨hq.1,hq.2⟩,hA.trans hA1⟩,.pass (x:=.inLoop c) rfl (λ_ _=>.inl (by simp)) harr⟩
  | goto l=>exact hq.elim
  | ret=>exact⟨.ret,a₁,w₁,⟨⟨hq.1,hq.2⟩,hA.trans hA1⟩,.pass (x:=.inLoop c) rfl (λ_ _=>.inl (by simp)) harr⟩
  | panic ch=>exact hq.elim
  | outgrown=>exact hq.elim
theorem yZX {σ:Type} {F:(σ->World->Prop)->σ->World->Prop} {s:σ} {w:World} (I:σ->World->Prop) (μ:σ->World->Nat) (h0:I s w)
  (hstep:∀(J:σ->World->Prop) s w,I s w->(∀s' w',I s' w'->μ s' w'<μ s w->J s' w')->F J s w):zQA F s w:=λJ hJ=>by
 have key:∀m s w,μ s w=m->I s w->J s w:=by
  intro m
  induction m using Nat.strongRecOn with
  | _ m ih=>
   intro s w hm hI
   exact hJ s w (hstep J s w hI λs' w' hI' hlt=>ih _ (hm ▸ hlt) s' w' rfl hI')
 exact key _ s w rfl h0
def xV3(P:Program):List ResultVar->Env->World->(List Value->Prop)->Prop
 | [],_,_,K=>K []
 | .tmp t :: rs,ρ,w,K=>xV3 P rs ρ w λvs=>K (ρ t :: vs)
 | .cell a t :: rs,ρ,w,K=>zVp (ρ a) λad=>yYm P t ad w λv=>xV3 P rs ρ w λvs=>K (v :: vs)
def resV:List Value->Value
 | [v]=>v
 | vs=>.tuple vs.toArray
def xZ8(P:Program)(d:Deferred)(w:World)(K:World->Prop):Prop:=match d.target with
 | .fn (.func f) cap=>match zQ5 P f with
  | true=>CallsD P f (d.args.toList ++ cap.toList).toArray .returning w λe u w'=>(∃v,e=.returned v)/\u=.returning/\K w'
  | false=>False
 | _=>False
def zQb(P:Program):List Deferred->World->(World->Prop)->Prop
 | [],w,K=>K w
 | d :: ds,w,K=>xZ8 P d w λw=>zQb P ds w K
def endQ(P:Program)(rs:List ResultVar)(R:Ending->World->Prop):EQ
 | .normal=>λρ ds w=>zQb P ds w λw=>xV3 P rs ρ w λvs=>R (.returned (resV vs)) w
 | .ret=>λρ ds w=>zQb P ds w λw=>xV3 P rs ρ w λvs=>R (.returned (resV vs)) w
 | _=>λ_ _ _=>False
def xQt(a:Act):ResultVar->Sem Value
 | .tmp t=>pure (a.tmps.getD t undef)
 | .cell x t=>do loadVar t (←asAddr (a.tmps.getD x undef))
theorem yKO{rs:List ResultVar}{a:Act}{w:World}:∀{K:List Value->Prop},xV3 P rs (zQB a) w K->∃vs,(rs.mapM (xQt a)).run P w=.ok vs w/\K vs:=by
 induction rs with
 | nil=>intro K h;exact⟨[],by simp,h⟩
 | cons r rs ih=>
  intro K h
  cases r with
  | tmp t=>
   obtain⟨vs,h1,h2⟩:=ih h
   refine⟨_,?_,h2⟩
   rw[List.mapM_cons]
   simp only[xQt,Sem.run_bind,Sem.run_pure,Result.andThen_ok]
   rw[h1];rfl
  | cell x t=>
   obtain⟨ad,hx,h⟩:=zXj h
   obtain⟨v,hv,h⟩:=zWl h
   obtain⟨vs,h1,h2⟩:=ih h
   refine⟨_,?_,h2⟩
   have hx':a.tmps.getD x undef=.pointer (some ad):=hx
   have hd:(xQt a (.cell x t)).run P w=.ok v w:=by simp only[xQt,hx',asAddr,Sem.run_bind,Sem.run_pure,Result.andThen_ok,hv]
   rw[List.mapM_cons]
   simp only[Sem.run_bind,hd,Result.andThen_ok,h1,Sem.run_pure]
theorem zJN {fn:Func} {a:Act} {w:World} {K:Value->Prop} (h:xV3 P fn.results.toList (zQB a) w λvs=>K (resV vs)):∃v,(results fn a.tmps).run P w=.ok v w/\K v:=by
 obtain⟨vs,h1,h2⟩:=yKO h
 refine⟨_,?_,h2⟩
 have e:results fn a.tmps=(do let vs ←fn.results.mapM (xQt a);pure (if h:vs.size=1 then vs[0]else .tuple vs)):=by
  unfold results
  congr 1
 rw[e,Array.mapM_eq_mapM_toList]
 simp only[Sem.run_bind,Sem.run_map,h1,Result.andThen_ok,Sem.run_pure]
 congr 1
 match vs with
 | []=>rfl
 | [v]=>rfl
 | v :: v' :: vs=>simp[resV]
theorem zJr{fn:Func}{a:Act}{R:Ending->World->Prop}:∀{ds:List Deferred} {w:World},
  (zQb P ds w λw=>xV3 P fn.results.toList (zQB a) w λvs=>R (.returned (resV vs)) w)->Leaves P fn a.tmps R ds .returning w
 | [],w,h=>by
  obtain⟨v,h1,h2⟩:=zJN (K:=λv=>R (.returned v) w) h
  exact⟨v,h1,h2⟩
 | d :: ds,w,h=>by
  have h:xZ8 P d w λw=>zQb P ds w λw=>xV3 P fn.results.toList (zQB a) w λvs=>R (.returned (resV vs)) w:=h
  unfold xZ8 at h
  split at h
  case h_2=>exact h.elim
  rename_i f cap ht
  split at h
  case h_2=>exact h.elim
  rename_i hb
  refine⟨by simp,.func f,cap,f,(d.args.toList ++ cap.toList).toArray,ht,?_,CallsD.mono h λe u w' hh=>?_⟩
  ·rw[ht]
   have e2:(d.args.toList ++ cap.toList).toArray=d.args ++ cap:=by apply Array.ext';simp
   rw[e2]
   exact zKx hb _ _
  ·obtain⟨⟨v,rfl⟩,rfl,hr⟩:=hh
   exact zJr hr
def zV0(args:List Value):Env:=λt=>args.getD t undef
theorem yJD{args:Array Value}{n:Nat}(h:args.size<=n):(args ++ Array.replicate (n - args.size) undef).size=n/\
  zQB { tmps:=args ++ Array.replicate (n - args.size) undef,defers:=[] }=zV0 args.toList:=by
 refine⟨by simp;omega,?_⟩
 funext t
 simp only[zQB,zV0]
 by_cases ht:t<args.size
 ·simp[ht,Array.getElem?_append_left]
 ·have h1:args.toList[t]?=none:=by apply List.getElem?_eq_none;simp;omega
  have h2:(args ++ Array.replicate (n - args.size) undef)[t]?.getD undef=undef:=by
   rw[Array.getElem?_append_right (by omega)]
   cases hr:(Array.replicate (n - args.size) undef)[t - args.size]? with
   | none=>rfl
   | some v=>
    have:=Array.getElem?_eq_some_iff.1 hr
    obtain⟨hlt,hv⟩:=this
    simp at hv
    rw[←hv];rfl
  simp only[Array.getD_eq_getD_getElem?,List.getD_eq_getElem?_getD,h1,h2];rfl
theorem yJo {f:FuncId} {fn:Func} {c:Code} {args:Array Value} {w:World} {R:Ending->World->Prop} (hf:P.funcs[f]?=some fn) (hb:fn.body=some c) (hn:args.size<=fn.ntmps)
  (h:TrL P fn.ntmps (zVc c) (endQ P fn.results.toList R) (zV0 args.toList) [] w):Calls P f args w R:=by
 obtain⟨hs,he⟩:=yJD hn
 refine calls_of_wp_defers hf hb (wp_mono (zWs h _ hs he rfl) λe a' w' ⟨h1,_⟩=>?_)
 cases e with
 | normal=>exact zJr h1.2
 | ret=>exact zJr h1.2
 | exit id=>exact h1.2.elim
 | _=>exact h1.elim
theorem yXK {f:FuncId} {fn:Func} {c:Code} {args:Array Value} {w:World} {R:Ending->World->Prop} (hf:P.funcs[f]?=some fn) (hb:fn.body=some c) (hn:args.size<=fn.ntmps) (hnd:zX0 c=true)
  (h:TrL P fn.ntmps (zVc c) (endQ P fn.results.toList R) (zV0 args.toList) [] w) (u:FrameMode):CallsD P f args u w λe u' w'=>u'=u/\R e w':=by
 obtain⟨hs,he⟩:=yJD hn
 refine callsD_of_wp hf hb (wp_mono (zWs h _ hs he rfl) λe a' w' ⟨h1,h2⟩=>?_)
 have hd:a'.defers=[]:=h2.defers hnd
 cases e with
 | normal=>have h3:=h1.2;rw[hd]at h3;obtain⟨v,h4,h5⟩:=zJN (K:=λv=>R (.returned v) w') h3;exact⟨hd,v,h4,h5⟩
 | ret=>have h3:=h1.2;rw[hd]at h3;obtain⟨v,h4,h5⟩:=zJN (K:=λv=>R (.returned v) w') h3;exact⟨hd,v,h4,h5⟩
 | exit id=>exact h1.2.elim
 | _=>exact h1.elim
end Go.Sh
