import Derived.Test.YtaeecpjhfmcliaaGreatDoorShSix
/- Code: the shallow semantics 'ptE', triples 'Tr', the rules that join them, and a function's call. For every program. -/
namespace Go.Sh
variable {P : Program}
def Br'(v:Value)(X Y:Prop):Prop:=yZA v λb=>Br b X Y
def zKi(K:EP)(Q:EQ):EQ
 | .normal=>K
 | e=>Q e
def yZc(id:Nat)(Q:EQ):EQ
 | .exit j=>cond (Nat.beq j id) (Q .normal) (Q (.exit j))
 | e=>Q e
def ptE(P:Program):Code->EQ->EP
 | .skip,Q=>Q .normal
 | .region _ ops draw,Q=>match draw with
  | false=>opsE P ops (Q .normal) ops.toList
  | true=>xQp P ops (Q .normal)
 | .seq x y,Q=>ptE P x (zKi (ptE P y Q) Q)
 | .cond c x y,Q=>λρ ds w=>Br' (ev ρ c) (ptE P x Q ρ ds w) (ptE P y Q ρ ds w)
 | .block id c,Q=>ptE P c (yZc id Q)
 | .scope c,Q=>ptE P c Q
 | .exit id,Q=>Q (.exit id)
 | .ret,Q=>Q .ret
 | _,_=>λ_ _ _=>False
def yQe:Code->Nat->Bool
 | .region _ ops _,t=>zZj ops.toList t
 | .seq x y,t=>yQe x t || yQe y t
 | .cond _ x y,t=>yQe x t || yQe y t
 | .block _ c,t=>yQe c t
 | .loop c,t=>yQe c t
 | .scope c,t=>yQe c t
 | _,_=>false
def zX5:Code->Bool
 | .region _ ops _=>zXh ops.toList
 | .seq x y=>zX5 x && zX5 y
 | .cond _ x y=>zX5 x && zX5 y
 | .block _ c=>zX5 c
 | .loop c=>zX5 c
 | .scope c=>zX5 c
 | _=>true
def zWh(n:Nat):Code->Bool
 | .region _ ops _=>zVw n ops
 | .seq x y=>zWh n x && zWh n y
 | .cond _ x y=>zWh n x && zWh n y
 | .block _ c=>zWh n c
 | .loop c=>zWh n c
 | .scope c=>zWh n c
 | _=>true
def Tr(P:Program)(n:Nat)(c:Code)(Q:EQ)(ρ:Env)(ds:List Deferred)(w:World):Prop:=
 ∀a:Act,a.tmps.size=n->zQF a=ρ->a.defers=ds->c.wp P (λe a' w'=>lift n Q e a' w'/\zXI (yQe c) (zX5 c) a a') a w
theorem zKz{n:Nat}{c:Code}{Q Q':EQ}{ρ:Env}{ds:List Deferred}{w:World}
  (hq:∀e ρ' ds' w',(∀t,yQe c t=false->ρ' t=ρ t)->(zX5 c=true->ds'=ds)->Q e ρ' ds' w'->Q' e ρ' ds' w') (h:Tr P n c Q ρ ds w):Tr P n c Q' ρ ds w:=λa hs he hd=>
 wp_mono (h a hs he hd) λe a' w' ⟨h1,h2⟩=>by
  refine⟨?_,h2⟩
  have key:Q e (zQF a') a'.defers w'->Q' e (zQF a') a'.defers w':=hq e _ _ _ (λt ht=>by rw[←he];exact h2.slots t ht) (λhn=>by rw[←hd];exact h2.defers hn)
  cases e <;> first|exact h1.elim|exact⟨h1.1,key h1.2⟩
theorem xWK {n:Nat} {x y:Code} {Q:EQ} {ρ:Env} {ds:List Deferred} {w:World} (h:Tr P n x (zKi (Tr P n y Q) Q) ρ ds w):Tr P n (.seq x y) Q ρ ds w:=λa hs he hd=>
 wp_seq (wp_mono (h a hs he hd) λe a' w' ⟨h1,h2⟩=>by
  have hw:zXI (yQe (.seq x y)) (zX5 (.seq x y)) a a':=h2.weaken (λt ht=>by simp only[yQe,Bool.or_eq_false_iff]at ht;exact ht.1) (λhn=>by simp only[zX5,Bool.and_eq_true]at hn;exact hn.1)
  cases e with
  | normal=>
   refine wp_mono (h1.2 a' h1.1 rfl rfl) λe a'' w'' ⟨h3,h4⟩=>⟨h3,hw.trans (h4.weaken (λt ht=>?_) λhn=>?_)⟩
   ·simp only[yQe,Bool.or_eq_false_iff]at ht;exact ht.2
   ·simp only[zX5,Bool.and_eq_true]at hn;exact hn.2
  | _=>first|exact h1.elim|exact⟨h1,hw⟩)
theorem xXk {n:Nat} {c:Operand} {x y:Code} {Q:EQ} {ρ:Env} {ds:List Deferred} {w:World} (h:Br' (ev ρ c) (Tr P n x Q ρ ds w) (Tr P n y Q ρ ds w)):Tr P n (.cond c x y) Q ρ ds w:=λa hs he hd=>by
 unfold Br' yZA at h
 split at h
 case h_2=>exact h.elim
 rename_i b hb
 rw[←he,zYk]at hb
 cases b with
 | true=>
  refine wp_cond_true hb (wp_mono (h a hs he hd) λe a' w' ⟨h1,h2⟩=>⟨h1,h2.weaken (λt ht=>?_) λhn=>?_⟩)
  ·simp only[yQe,Bool.or_eq_false_iff]at ht;exact ht.1
  ·simp only[zX5,Bool.and_eq_true]at hn;exact hn.1
 | false=>
  refine wp_cond_false hb (wp_mono (h a hs he hd) λe a' w' ⟨h1,h2⟩=>⟨h1,h2.weaken (λt ht=>?_) λhn=>?_⟩)
  ·simp only[yQe,Bool.or_eq_false_iff]at ht;exact ht.2
  ·simp only[zX5,Bool.and_eq_true]at hn;exact hn.2
theorem yKh {n id:Nat} {c:Code} {Q:EQ} {ρ:Env} {ds:List Deferred} {w:World} (h:Tr P n c (yZc id Q) ρ ds w):Tr P n (.block id c) Q ρ ds w:=λa hs he hd=>
 wp_block (wp_mono (h a hs he hd) λe a' w' ⟨h1,h2⟩=>by
  have yO:zXI (yQe (.block id c)) (zX5 (.block id c)) a a':=h2
  cases e with
  | exit j=>
   simp only[lift,yZc]at h1
   simp only[Exit.inBlock]
   by_cases hj:j=id
   ·subst hj
    rw[if_pos rfl]
    have:Nat.beq j j=true:=Nat.beq_refl j
    rw[this]at h1
    exact⟨⟨h1.1,h1.2⟩,yO⟩
   ·rw[if_neg hj]
    have:Nat.beq j id=false:=by cases hb:Nat.beq j id;rfl;exact absurd (Nat.eq_of_beq_eq_true hb) hj
    rw[this]at h1
    exact⟨⟨h1.1,h1.2⟩,yO⟩
  | _=>exact⟨h1,yO⟩)
theorem yKE{n:Nat}{c:Code}{Q:EQ}{ρ:Env}{ds:List Deferred}{w:World}(h:Tr P n c Q ρ ds w):Tr P n (.scope c) Q ρ ds w:=λa hs he hd=>
 wp_scope_straight (wp_mono (h a hs he hd) λe a' w' ⟨h1,h2⟩=>by
  have yO:zXI (yQe (.scope c)) (zX5 (.scope c)) a a':=h2
  cases e with
  | goto l=>exact h1.elim
  | _=>exact⟨h1,yO⟩)
theorem zJc{n:Nat}:∀{c:Code} {Q:EQ} {ρ:Env} {ds:List Deferred} {w:World},zWh n c=true->ptE P c Q ρ ds w->Tr P n c Q ρ ds w
 | .skip,Q,ρ,ds,w,_,h=>λa hs he hd=>wp_skip ⟨⟨hs,by rw[he,hd];exact h⟩,zXI.refl _ _ _⟩
 | .region id ops false,Q,ρ,ds,w,hf,h=>λa hs he hd=>by
  subst he;subst hd
  exact wp_region_list (yQD hf ops.toList (λ_ h=>h) a w hs h λa' w' hA hK=>⟨⟨hA.size.trans hs,hK⟩,hA⟩)
 | .region id ops true,Q,ρ,ds,w,hf,h=>λa hs he hd=>by
  subst he;subst hd
  exact yZM hf (λc a w h=>h.1.elim) hs (λa' w' hA hK=>⟨⟨hA.size.trans hs,hK⟩,hA⟩) h
 | .seq x y,Q,ρ,ds,w,hf,h=>by
  simp only[zWh,Bool.and_eq_true]at hf
  refine xWK (zKz (λe ρ' ds' w' _ _ hq=>?_) (zJc hf.1 h))
  cases e with
  | normal=>exact zJc hf.2 hq
  | _=>exact hq
 | .cond c x y,Q,ρ,ds,w,hf,h=>by
  simp only[zWh,Bool.and_eq_true]at hf
  refine xXk ?_
  have h:Br' (ev ρ c) (ptE P x Q ρ ds w) (ptE P y Q ρ ds w):=h
  unfold Br' yZA at h ⊢
  split at h
  case h_2=>exact h.elim
  rename_i b hb
  cases b with
  | true=>exact zJc hf.1 h
  | false=>exact zJc hf.2 h
 | .block id c,Q,ρ,ds,w,hf,h=>yKh (zJc hf h)
 | .scope c,Q,ρ,ds,w,hf,h=>yKE (zJc hf h)
 | .exit id,Q,ρ,ds,w,_,h=>λa hs he hd=>wp_exit ⟨⟨hs,by rw[he,hd];exact h⟩,zXI.refl _ _ _⟩
 | .ret,Q,ρ,ds,w,_,h=>λa hs he hd=>wp_ret ⟨⟨hs,by rw[he,hd];exact h⟩,zXI.refl _ _ _⟩
def zV1:Code->List Code
 | .seq x y=>zV1 x ++ zV1 y
 | c=>[c]
def ptL(P:Program):List Code->EQ->EP
 | [],Q=>Q .normal
 | c :: cs,Q=>ptE P c (zKi (ptL P cs Q) Q)
def TrL(P:Program)(n:Nat):List Code->EQ->EP
 | [],Q=>Q .normal
 | c :: cs,Q=>Tr P n c (zKi (TrL P n cs Q) Q)
def zKg(n:Nat)(cs:List Code):Bool:=cs.all (zWh n)
def asgL(cs:List Code)(t:Nat):Bool:=cs.any λc=>yQe c t
def yKD(cs:List Code):Bool:=cs.all zX5
theorem yKA{n:Nat}:∀{cs:List Code} {Q Q':EQ} {ρ:Env} {ds:List Deferred} {w:World},
  (∀e ρ' ds' w',(∀t,asgL cs t=false->ρ' t=ρ t)->(yKD cs=true->ds'=ds)->Q e ρ' ds' w'->Q' e ρ' ds' w')->TrL P n cs Q ρ ds w->TrL P n cs Q' ρ ds w
 | [],_,_,_,_,_,hq,h=>hq .normal _ _ _ (λ_ _=>rfl) (λ_=>rfl) h
 | c :: cs,Q,Q',ρ,ds,w,hq,h=>zKz (λe ρ' ds' w' h1 h2 hk=>by
   cases e with
   | normal=>
    refine yKA (λe ρ'' ds'' w'' h3 h4 hk=>hq e ρ'' ds'' w'' (λt ht=>?_) (λhn=>?_) hk) hk
    ·simp only[asgL,List.any_cons,Bool.or_eq_false_iff]at ht
     exact(h3 t ht.2).trans (h1 t ht.1)
    ·simp only[yKD,List.all_cons,Bool.and_eq_true]at hn
     exact(h4 hn.2).trans (h2 hn.1)
   | _=>
    refine hq _ _ _ _ (λt ht=>?_) (λhn=>?_) hk
    ·simp only[asgL,List.any_cons,Bool.or_eq_false_iff]at ht;exact h1 t ht.1
    ·simp only[yKD,List.all_cons,Bool.and_eq_true]at hn;exact h2 hn.1) h
theorem yQI{n:Nat}:∀{xs ys:List Code} {Q:EQ} {ρ:Env} {ds:List Deferred} {w:World},TrL P n xs (zKi (TrL P n ys Q) Q) ρ ds w->TrL P n (xs ++ ys) Q ρ ds w
 | [],_,_,_,_,_,h=>h
 | c :: xs,ys,Q,ρ,ds,w,h=>zKz (λe ρ' ds' w' _ _ hk=>by
   cases e with
   | normal=>exact yQI hk
   | _=>exact hk) h
theorem zWq{n:Nat}:∀{c:Code} {Q:EQ} {ρ:Env} {ds:List Deferred} {w:World},TrL P n (zV1 c) Q ρ ds w->Tr P n c Q ρ ds w:=by
 have one:∀{c:Code} {Q:EQ} {ρ:Env} {ds:List Deferred} {w:World},TrL P n [c] Q ρ ds w->Tr P n c Q ρ ds w:=λh=>
  zKz (λe ρ' ds' w' _ _ hk=>by cases e <;> exact hk) h
 intro c
 induction c with
 | seq x y ihx ihy=>
  intro Q ρ ds w h
  have h:TrL P n (zV1 x ++ zV1 y) Q ρ ds w:=h
  have split:∀(xs:List Code) {ρ:Env} {ds:List Deferred} {w:World},TrL P n (xs ++ zV1 y) Q ρ ds w->TrL P n xs (zKi (TrL P n (zV1 y) Q) Q) ρ ds w:=by
   intro xs
   induction xs with
   | nil=>intro ρ ds w h;exact h
   | cons c xs ih=>
    intro ρ ds w h
    refine zKz (λe ρ' ds' w' _ _ hk=>?_) h
    cases e with
    | normal=>exact ih hk
    | _=>exact hk
  refine xWK (zKz (λe ρ' ds' w' _ _ hk=>?_) (ihx (split _ h)))
  cases e with
  | normal=>exact ihy hk
  | _=>exact hk
 | _=>intro Q ρ ds w h;exact one h
theorem zV0{n:Nat}:∀{cs:List Code} {Q:EQ} {ρ:Env} {ds:List Deferred} {w:World},zKg n cs=true->ptL P cs Q ρ ds w->TrL P n cs Q ρ ds w
 | [],_,_,_,_,_,h=>h
 | c :: cs,Q,ρ,ds,w,hf,h=>by
  simp only[zKg,List.all_cons,Bool.and_eq_true]at hf
  refine zKz (λe ρ' ds' w' _ _ hk=>?_) (zJc hf.1 h)
  cases e with
  | normal=>exact zV0 hf.2 hk
  | _=>exact hk
theorem xJc {n:Nat} {pre suf:List Code} {K:EP} {Q:EQ} {ρ:Env} {ds:List Deferred} {w:World} (hf:zKg n pre=true) (h:ptL P pre (zKi K Q) ρ ds w)
  (hk:∀ρ' ds' w',(∀t,asgL pre t=false->ρ' t=ρ t)->(yKD pre=true->ds'=ds)->K ρ' ds' w'->TrL P n suf Q ρ' ds' w'):TrL P n (pre ++ suf) Q ρ ds w:=
 yQI (yKA (λe ρ' ds' w' h1 h2 hq=>by
  cases e with
  | normal=>exact hk ρ' ds' w' h1 h2 hq
  | _=>exact hq) (zV0 hf h))
theorem xJq {n:Nat} {c:Code} {suf:List Code} {K:EP} {Q:EQ} {ρ:Env} {ds:List Deferred} {w:World} (h:Tr P n c (zKi K Q) ρ ds w)
  (hk:∀ρ' ds' w',(∀t,yQe c t=false->ρ' t=ρ t)->(zX5 c=true->ds'=ds)->K ρ' ds' w'->TrL P n suf Q ρ' ds' w'):TrL P n (c :: suf) Q ρ ds w:=
 zKz (λe ρ' ds' w' h1 h2 hq=>by
  cases e with
  | normal=>exact hk ρ' ds' w' h1 h2 hq
  | _=>exact hq) h
def zQE {σ:Type} (F:(σ->World->Prop)->σ->World->Prop) (s:σ) (w:World):Prop:=∀J:σ->World->Prop,(∀s w,F J s w->J s w)->J s w
theorem xYS {n:Nat} {c:Code} {Q:EQ} {σ:Type} {enc:σ->Env->Prop} {D:Env->(σ->Prop)->Prop} {F:(σ->World->Prop)->σ->World->Prop} {ρ0:Env} {ds:List Deferred} {s0:σ} {w0:World}
  (h0:enc s0 ρ0) (hnd:zX5 c=true) (hD:∀ρ K,D ρ K->∃s,enc s ρ/\K s)
  (hbody:∀(J:σ->World->Prop) s ρ w,enc s ρ->(∀t,yQe c t=false->ρ t=ρ0 t)->F J s w->Tr P n c (zKi (λρ' _ w'=>D ρ' λs'=>J s' w') Q) ρ ds w)
  (h:zQE F s0 w0):Tr P n (.loop c) Q ρ0 ds w0:=λa hs he hd=>by
 have key:=h (λs w=>∀a':Act,a'.tmps.size=n->enc s (zQF a')->zXI (yQe c) (zX5 c) a a'->∀(b:Frame) (k:List Item) (cs:List Frame),
   ∃e a'' w',(lift n Q e a'' w'/\zXI (yQe c) (zX5 c) a a'')/\Arrives P (lone (b.at a' (.code c :: .inLoop c :: k)) cs w) b k cs e a'' w') ?_
 ·intro b k cs
  obtain⟨e,a',w',hq,harr⟩:=key a hs (by rw[he];exact h0) (zXI.refl _ _ _) b k cs
  exact⟨e,a',w',hq,.of_steps (.one step_loop) harr⟩
 ·intro s w hF a' hs' he' hA b k cs
  have hT:=hbody _ s (zQF a') w he' (λt ht=>by rw[←he];exact hA.slots t ht) hF a' hs' rfl (by rw[←hd];exact hA.defers hnd) b (.inLoop c :: k) cs
  obtain⟨e,a₁,w₁,⟨hq,hA1⟩,harr⟩:=hT
  cases e with
  | normal=>
   obtain⟨s',sU,hJ⟩:=hD _ _ hq.2
   obtain⟨e₂,a₂,w₂,hq₂,harr₂⟩:=hJ a₁ hq.1 sU (hA.trans hA1) b k cs
   exact⟨e₂,a₂,w₂,hq₂,.of_steps (Steps.trans harr (.one step_inLoop)) harr₂⟩
  | exit id=>exact⟨.exit id,a₁,w₁,⟨⟨hq.1,hq.2⟩,hA.trans hA1⟩,.pass (x:=.inLoop c) rfl (λ_ _=>.inl (by simp)) harr⟩
  | goto l=>exact hq.elim
  | ret=>exact⟨.ret,a₁,w₁,⟨⟨hq.1,hq.2⟩,hA.trans hA1⟩,.pass (x:=.inLoop c) rfl (λ_ _=>.inl (by simp)) harr⟩
  | panic ch=>exact hq.elim
  | outgrown=>exact hq.elim
theorem yJf {σ:Type} {F:(σ->World->Prop)->σ->World->Prop} {s:σ} {w:World} (I:σ->World->Prop) (μ:σ->World->Nat) (h0:I s w)
  (hstep:∀(J:σ->World->Prop) s w,I s w->(∀s' w',I s' w'->μ s' w'<μ s w->J s' w')->F J s w):zQE F s w:=λJ hJ=>by
 have key:∀m s w,μ s w=m->I s w->J s w:=by
  intro m
  induction m using Nat.strongRecOn with
  | _ m ih=>
   intro s w hm hI
   exact hJ s w (hstep J s w hI λs' w' hI' hlt=>ih _ (hm ▸ hlt) s' w' rfl hI')
 exact key _ s w rfl h0
def xYb(P:Program):List ResultVar->Env->World->(List Value->Prop)->Prop
 | [],_,_,K=>K []
 | .tmp t :: rs,ρ,w,K=>xYb P rs ρ w λvs=>K (ρ t :: vs)
 | .cell a t :: rs,ρ,w,K=>zV3 (ρ a) λad=>xQC P t ad w λv=>xYb P rs ρ w λvs=>K (v :: vs)
def resV:List Value->Value
 | [v]=>v
 | vs=>.tuple vs.toArray
def xZZ(P:Program)(d:Deferred)(w:World)(K:World->Prop):Prop:=match d.target with
 | .fn (.func f) cap=>match zQ6 P f with
  | true=>CallsD P f (d.args.toList ++ cap.toList).toArray .returning w λe u w'=>(∃v,e=.returned v)/\u=.returning/\K w'
  | false=>False
 | _=>False
def zQb(P:Program):List Deferred->World->(World->Prop)->Prop
 | [],w,K=>K w
 | d :: ds,w,K=>xZZ P d w λw=>zQb P ds w K
def endQ(P:Program)(rs:List ResultVar)(R:Ending->World->Prop):EQ
 | .normal=>λρ ds w=>zQb P ds w λw=>xYb P rs ρ w λvs=>R (.returned (resV vs)) w
 | .ret=>λρ ds w=>zQb P ds w λw=>xYb P rs ρ w λvs=>R (.returned (resV vs)) w
 | _=>λ_ _ _=>False
def xZk(a:Act):ResultVar->Sem Value
 | .tmp t=>pure (a.tmps.getD t undef)
 | .cell x t=>do loadVar t (←asAddr (a.tmps.getD x undef))
theorem yWG{rs:List ResultVar}{a:Act}{w:World}:∀{K:List Value->Prop},xYb P rs (zQF a) w K->∃vs,(rs.mapM (xZk a)).run P w=.ok vs w/\K vs:=by
 induction rs with
 | nil=>intro K h;exact⟨[],by simp,h⟩
 | cons r rs ih=>
  intro K h
  cases r with
  | tmp t=>
   obtain⟨vs,h1,h2⟩:=ih h
   refine⟨_,?_,h2⟩
   rw[List.mapM_cons]
   simp only[xZk,Sem.run_bind,Sem.run_pure,Result.andThen_ok]
   rw[h1];rfl
  | cell x t=>
   obtain⟨ad,hx,h⟩:=zXm h
   obtain⟨v,hv,h⟩:=zWj h
   obtain⟨vs,h1,h2⟩:=ih h
   refine⟨_,?_,h2⟩
   have hx':a.tmps.getD x undef=.pointer (some ad):=hx
   have hd:(xZk a (.cell x t)).run P w=.ok v w:=by simp only[xZk,hx',asAddr,Sem.run_bind,Sem.run_pure,Result.andThen_ok,hv]
   rw[List.mapM_cons]
   simp only[Sem.run_bind,hd,Result.andThen_ok,h1,Sem.run_pure]
theorem zJP {fn:Func} {a:Act} {w:World} {K:Value->Prop} (h:xYb P fn.results.toList (zQF a) w λvs=>K (resV vs)):∃v,(results fn a.tmps).run P w=.ok v w/\K v:=by
 obtain⟨vs,h1,h2⟩:=yWG h
 refine⟨_,?_,h2⟩
 have e:results fn a.tmps=(do let vs ←fn.results.mapM (xZk a);pure (if h:vs.size=1 then vs[0]else .tuple vs)):=by
  unfold results
  congr 1
 rw[e,Array.mapM_eq_mapM_toList]
 simp only[Sem.run_bind,Sem.run_map,h1,Result.andThen_ok,Sem.run_pure]
 congr 1
 match vs with
 | []=>rfl
 | [v]=>rfl
 | v :: v' :: vs=>simp[resV]
theorem zJw{fn:Func}{a:Act}{R:Ending->World->Prop}:∀{ds:List Deferred} {w:World},
  (zQb P ds w λw=>xYb P fn.results.toList (zQF a) w λvs=>R (.returned (resV vs)) w)->Leaves P fn a.tmps R ds .returning w
 | [],w,h=>by
  obtain⟨v,h1,h2⟩:=zJP (K:=λv=>R (.returned v) w) h
  exact⟨v,h1,h2⟩
 | d :: ds,w,h=>by
  have h:xZZ P d w λw=>zQb P ds w λw=>xYb P fn.results.toList (zQF a) w λvs=>R (.returned (resV vs)) w:=h
  unfold xZZ at h
  split at h
  case h_2=>exact h.elim
  rename_i f cap ht
  split at h
  case h_2=>exact h.elim
  rename_i hb
  refine⟨by simp,.func f,cap,f,(d.args.toList ++ cap.toList).toArray,ht,?_,CallsD.mono h λe u w' hh=>?_⟩
  ·rw[ht]
   have e2:(d.args.toList ++ cap.toList).toArray=d.args ++ cap:=by apply Array.ext';simp
   rw[e2]
   exact zK0 hb _ _
  ·obtain⟨⟨v,rfl⟩,rfl,hr⟩:=hh
   exact zJw hr
def zVF(args:List Value):Env:=λt=>args.getD t undef
theorem yKF{args:Array Value}{n:Nat}(h:args.size<=n):(args ++ Array.replicate (n - args.size) undef).size=n/\
  zQF { tmps:=args ++ Array.replicate (n - args.size) undef,defers:=[] }=zVF args.toList:=by
 refine⟨by simp;omega,?_⟩
 funext t
 simp only[zQF,zVF]
 by_cases ht:t<args.size
 ·simp[ht,Array.getElem?_append_left]
 ·have h1:args.toList[t]?=none:=by apply List.getElem?_eq_none;simp;omega
  have h2:(args ++ Array.replicate (n - args.size) undef)[t]?.getD undef=undef:=by
   rw[Array.getElem?_append_right (by omega)]
   cases hr:(Array.replicate (n - args.size) undef)[t - args.size]? with
   | none=>rfl
   | some v=>
    have:=Array.getElem?_eq_some_iff.1 hr
    obtain⟨hlt,hv⟩:=this
    simp at hv
    rw[←hv];rfl
  simp only[Array.getD_eq_getD_getElem?,List.getD_eq_getElem?_getD,h1,h2];rfl
theorem yJu {f:FuncId} {fn:Func} {c:Code} {args:Array Value} {w:World} {R:Ending->World->Prop} (hf:P.funcs[f]?=some fn) (hb:fn.body=some c) (hn:args.size<=fn.ntmps)
  (h:TrL P fn.ntmps (zV1 c) (endQ P fn.results.toList R) (zVF args.toList) [] w):Calls P f args w R:=by
 obtain⟨hs,he⟩:=yKF hn
 refine calls_of_wp_defers hf hb (wp_mono (zWq h _ hs he rfl) λe a' w' ⟨h1,_⟩=>?_)
 cases e with
 | normal=>exact zJw h1.2
 | ret=>exact zJw h1.2
 | exit id=>exact h1.2.elim
 | _=>exact h1.elim
theorem yZ4 {f:FuncId} {fn:Func} {c:Code} {args:Array Value} {w:World} {R:Ending->World->Prop} (hf:P.funcs[f]?=some fn) (hb:fn.body=some c) (hn:args.size<=fn.ntmps) (hnd:zX5 c=true)
  (h:TrL P fn.ntmps (zV1 c) (endQ P fn.results.toList R) (zVF args.toList) [] w) (u:FrameMode):CallsD P f args u w λe u' w'=>u'=u/\R e w':=by
 obtain⟨hs,he⟩:=yKF hn
 refine callsD_of_wp hf hb (wp_mono (zWq h _ hs he rfl) λe a' w' ⟨h1,h2⟩=>?_)
 have hd:a'.defers=[]:=h2.defers hnd
 cases e with
 | normal=>have h3:=h1.2;rw[hd]at h3;obtain⟨v,h4,h5⟩:=zJP (K:=λv=>R (.returned v) w') h3;exact⟨hd,v,h4,h5⟩
 | ret=>have h3:=h1.2;rw[hd]at h3;obtain⟨v,h4,h5⟩:=zJP (K:=λv=>R (.returned v) w') h3;exact⟨hd,v,h4,h5⟩
 | exit id=>exact h1.2.elim
 | _=>exact h1.elim
end Go.Sh
