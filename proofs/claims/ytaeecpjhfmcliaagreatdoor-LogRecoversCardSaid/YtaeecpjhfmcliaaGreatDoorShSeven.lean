import Derived.Test.YtaeecpjhfmcliaaGreatDoorShSix
/- Code: the shallow semantics 'ptE', triples 'Tr', the rules that join them, and a function's call. For every program. -/
namespace Go.Sh
variable {P : Program}
def Br'(v:Value)(X Y:Prop):Prop:=yZH v λb=>Br b X Y
def zKh(K:EP)(Q:EQ):EQ
 | .normal=>K
 | e=>Q e
def yZG(id:Nat)(Q:EQ):EQ
 | .exit j=>cond (Nat.beq j id) (Q .normal) (Q (.exit j))
 | e=>Q e
def ptE(P:Program):Code->EQ->EP
 | .skip,Q=>Q .normal
 | .region _ ops draw,Q=>match draw with
  | false=>opsE P ops (Q .normal) ops.toList
  | true=>yYU P ops (Q .normal)
 | .seq x y,Q=>ptE P x (zKh (ptE P y Q) Q)
 | .cond c x y,Q=>λρ ds w=>Br' (ev ρ c) (ptE P x Q ρ ds w) (ptE P y Q ρ ds w)
 | .block id c,Q=>ptE P c (yZG id Q)
 | .scope c,Q=>ptE P c Q
 | .exit id,Q=>Q (.exit id)
 | .ret,Q=>Q .ret
 | _,_=>λ_ _ _=>False
def zY8:Code->Nat->Bool
 | .region _ ops _,t=>zZo ops.toList t
 | .seq x y,t=>zY8 x t || zY8 y t
 | .cond _ x y,t=>zY8 x t || zY8 y t
 | .block _ c,t=>zY8 c t
 | .loop c,t=>zY8 c t
 | .scope c,t=>zY8 c t
 | _,_=>false
def zX4:Code->Bool
 | .region _ ops _=>zXj ops.toList
 | .seq x y=>zX4 x && zX4 y
 | .cond _ x y=>zX4 x && zX4 y
 | .block _ c=>zX4 c
 | .loop c=>zX4 c
 | .scope c=>zX4 c
 | _=>true
def zWv(n:Nat):Code->Bool
 | .region _ ops _=>zVt n ops
 | .seq x y=>zWv n x && zWv n y
 | .cond _ x y=>zWv n x && zWv n y
 | .block _ c=>zWv n c
 | .loop c=>zWv n c
 | .scope c=>zWv n c
 | _=>true
def Tr(P:Program)(n:Nat)(c:Code)(Q:EQ)(ρ:Env)(ds:List Deferred)(w:World):Prop:=
 ∀a:Act,a.tmps.size=n->zQG a=ρ->a.defers=ds->c.wp P (λe a' w'=>lift n Q e a' w'/\zXJ (zY8 c) (zX4 c) a a') a w
theorem zK0{n:Nat}{c:Code}{Q Q':EQ}{ρ:Env}{ds:List Deferred}{w:World}
  (hq:∀e ρ' ds' w',(∀t,zY8 c t=false->ρ' t=ρ t)->(zX4 c=true->ds'=ds)->Q e ρ' ds' w'->Q' e ρ' ds' w') (h:Tr P n c Q ρ ds w):Tr P n c Q' ρ ds w:=λa hs he hd=>
 wp_mono (h a hs he hd) λe a' w' ⟨h1,h2⟩=>by
  refine⟨?_,h2⟩
  have key:Q e (zQG a') a'.defers w'->Q' e (zQG a') a'.defers w':=hq e _ _ _ (λt ht=>by rw[←he];exact h2.slots t ht) (λhn=>by rw[←hd];exact h2.defers hn)
  cases e <;> first|exact h1.elim|exact⟨h1.1,key h1.2⟩
theorem xVi {n:Nat} {x y:Code} {Q:EQ} {ρ:Env} {ds:List Deferred} {w:World} (h:Tr P n x (zKh (Tr P n y Q) Q) ρ ds w):Tr P n (.seq x y) Q ρ ds w:=λa hs he hd=>
 wp_seq (wp_mono (h a hs he hd) λe a' w' ⟨h1,h2⟩=>by
  have hw:zXJ (zY8 (.seq x y)) (zX4 (.seq x y)) a a':=h2.weaken (λt ht=>by simp only[zY8,Bool.or_eq_false_iff]at ht;exact ht.1) (λhn=>by simp only[zX4,Bool.and_eq_true]at hn;exact hn.1)
  cases e with
  | normal=>
   refine wp_mono (h1.2 a' h1.1 rfl rfl) λe a'' w'' ⟨h3,h4⟩=>⟨h3,hw.trans (h4.weaken (λt ht=>?_) λhn=>?_)⟩
   ·simp only[zY8,Bool.or_eq_false_iff]at ht;exact ht.2
   ·simp only[zX4,Bool.and_eq_true]at hn;exact hn.2
  | _=>first|exact h1.elim|exact⟨h1,hw⟩)
theorem yYJ {n:Nat} {c:Operand} {x y:Code} {Q:EQ} {ρ:Env} {ds:List Deferred} {w:World} (h:Br' (ev ρ c) (Tr P n x Q ρ ds w) (Tr P n y Q ρ ds w)):Tr P n (.cond c x y) Q ρ ds w:=λa hs he hd=>by
 unfold Br' yZH at h
 split at h
 case h_2=>exact h.elim
 rename_i b hb
 rw[←he,zYj]at hb
 cases b with
 | true=>
  refine wp_cond_true hb (wp_mono (h a hs he hd) λe a' w' ⟨h1,h2⟩=>⟨h1,h2.weaken (λt ht=>?_) λhn=>?_⟩)
  ·simp only[zY8,Bool.or_eq_false_iff]at ht;exact ht.1
  ·simp only[zX4,Bool.and_eq_true]at hn;exact hn.1
 | false=>
  refine wp_cond_false hb (wp_mono (h a hs he hd) λe a' w' ⟨h1,h2⟩=>⟨h1,h2.weaken (λt ht=>?_) λhn=>?_⟩)
  ·simp only[zY8,Bool.or_eq_false_iff]at ht;exact ht.2
  ·simp only[zX4,Bool.and_eq_true]at hn;exact hn.2
theorem yKm {n id:Nat} {c:Code} {Q:EQ} {ρ:Env} {ds:List Deferred} {w:World} (h:Tr P n c (yZG id Q) ρ ds w):Tr P n (.block id c) Q ρ ds w:=λa hs he hd=>
 wp_block (wp_mono (h a hs he hd) λe a' w' ⟨h1,h2⟩=>by
  have yJ:zXJ (zY8 (.block id c)) (zX4 (.block id c)) a a':=h2
  cases e with
  | exit j=>
   simp only[lift,yZG]at h1
   simp only[Exit.inBlock]
   by_cases hj:j=id
   ·subst hj
    rw[if_pos rfl]
    have:Nat.beq j j=true:=Nat.beq_refl j
    rw[this]at h1
    exact⟨⟨h1.1,h1.2⟩,yJ⟩
   ·rw[if_neg hj]
    have:Nat.beq j id=false:=by cases hb:Nat.beq j id;rfl;exact absurd (Nat.eq_of_beq_eq_true hb) hj
    rw[this]at h1
    exact⟨⟨h1.1,h1.2⟩,yJ⟩
  | _=>exact⟨h1,yJ⟩)
theorem yKD{n:Nat}{c:Code}{Q:EQ}{ρ:Env}{ds:List Deferred}{w:World}(h:Tr P n c Q ρ ds w):Tr P n (.scope c) Q ρ ds w:=λa hs he hd=>
 wp_scope_straight (wp_mono (h a hs he hd) λe a' w' ⟨h1,h2⟩=>by
  have yJ:zXJ (zY8 (.scope c)) (zX4 (.scope c)) a a':=h2
  cases e with
  | goto l=>exact h1.elim
  | _=>exact⟨h1,yJ⟩)
theorem zJf{n:Nat}:∀{c:Code} {Q:EQ} {ρ:Env} {ds:List Deferred} {w:World},zWv n c=true->ptE P c Q ρ ds w->Tr P n c Q ρ ds w
 | .skip,Q,ρ,ds,w,_,h=>λa hs he hd=>wp_skip ⟨⟨hs,by rw[he,hd];exact h⟩,zXJ.refl _ _ _⟩
 | .region id ops false,Q,ρ,ds,w,hf,h=>λa hs he hd=>by
  subst he;subst hd
  exact wp_region_list (yQH hf ops.toList (λ_ h=>h) a w hs h λa' w' hA hK=>⟨⟨hA.size.trans hs,hK⟩,hA⟩)
 | .region id ops true,Q,ρ,ds,w,hf,h=>λa hs he hd=>by
  subst he;subst hd
  exact yZB hf (λc a w h=>h.1.elim) hs (λa' w' hA hK=>⟨⟨hA.size.trans hs,hK⟩,hA⟩) h
 | .seq x y,Q,ρ,ds,w,hf,h=>by
  simp only[zWv,Bool.and_eq_true]at hf
  refine xVi (zK0 (λe ρ' ds' w' _ _ hq=>?_) (zJf hf.1 h))
  cases e with
  | normal=>exact zJf hf.2 hq
  | _=>exact hq
 | .cond c x y,Q,ρ,ds,w,hf,h=>by
  simp only[zWv,Bool.and_eq_true]at hf
  refine yYJ ?_
  have h:Br' (ev ρ c) (ptE P x Q ρ ds w) (ptE P y Q ρ ds w):=h
  unfold Br' yZH at h ⊢
  split at h
  case h_2=>exact h.elim
  rename_i b hb
  cases b with
  | true=>exact zJf hf.1 h
  | false=>exact zJf hf.2 h
 | .block id c,Q,ρ,ds,w,hf,h=>yKm (zJf hf h)
 | .scope c,Q,ρ,ds,w,hf,h=>yKD (zJf hf h)
 | .exit id,Q,ρ,ds,w,_,h=>λa hs he hd=>wp_exit ⟨⟨hs,by rw[he,hd];exact h⟩,zXJ.refl _ _ _⟩
 | .ret,Q,ρ,ds,w,_,h=>λa hs he hd=>wp_ret ⟨⟨hs,by rw[he,hd];exact h⟩,zXJ.refl _ _ _⟩
def zVi:Code->List Code
 | .seq x y=>zVi x ++ zVi y
 | c=>[c]
def ptL(P:Program):List Code->EQ->EP
 | [],Q=>Q .normal
 | c :: cs,Q=>ptE P c (zKh (ptL P cs Q) Q)
def TrL(P:Program)(n:Nat):List Code->EQ->EP
 | [],Q=>Q .normal
 | c :: cs,Q=>Tr P n c (zKh (TrL P n cs Q) Q)
def zKl(n:Nat)(cs:List Code):Bool:=cs.all (zWv n)
def asgL(cs:List Code)(t:Nat):Bool:=cs.any λc=>zY8 c t
def yKu(cs:List Code):Bool:=cs.all zX4
theorem yKs{n:Nat}:∀{cs:List Code} {Q Q':EQ} {ρ:Env} {ds:List Deferred} {w:World},
  (∀e ρ' ds' w',(∀t,asgL cs t=false->ρ' t=ρ t)->(yKu cs=true->ds'=ds)->Q e ρ' ds' w'->Q' e ρ' ds' w')->TrL P n cs Q ρ ds w->TrL P n cs Q' ρ ds w
 | [],_,_,_,_,_,hq,h=>hq .normal _ _ _ (λ_ _=>rfl) (λ_=>rfl) h
 | c :: cs,Q,Q',ρ,ds,w,hq,h=>zK0 (λe ρ' ds' w' h1 h2 hk=>by
   cases e with
   | normal=>
    refine yKs (λe ρ'' ds'' w'' h3 h4 hk=>hq e ρ'' ds'' w'' (λt ht=>?_) (λhn=>?_) hk) hk
    ·simp only[asgL,List.any_cons,Bool.or_eq_false_iff]at ht
     exact(h3 t ht.2).trans (h1 t ht.1)
    ·simp only[yKu,List.all_cons,Bool.and_eq_true]at hn
     exact(h4 hn.2).trans (h2 hn.1)
   | _=>
    refine hq _ _ _ _ (λt ht=>?_) (λhn=>?_) hk
    ·simp only[asgL,List.any_cons,Bool.or_eq_false_iff]at ht;exact h1 t ht.1
    ·simp only[yKu,List.all_cons,Bool.and_eq_true]at hn;exact h2 hn.1) h
theorem yQC{n:Nat}:∀{xs ys:List Code} {Q:EQ} {ρ:Env} {ds:List Deferred} {w:World},TrL P n xs (zKh (TrL P n ys Q) Q) ρ ds w->TrL P n (xs ++ ys) Q ρ ds w
 | [],_,_,_,_,_,h=>h
 | c :: xs,ys,Q,ρ,ds,w,h=>zK0 (λe ρ' ds' w' _ _ hk=>by
   cases e with
   | normal=>exact yQC hk
   | _=>exact hk) h
theorem zWw{n:Nat}:∀{c:Code} {Q:EQ} {ρ:Env} {ds:List Deferred} {w:World},TrL P n (zVi c) Q ρ ds w->Tr P n c Q ρ ds w:=by
 have one:∀{c:Code} {Q:EQ} {ρ:Env} {ds:List Deferred} {w:World},TrL P n [c] Q ρ ds w->Tr P n c Q ρ ds w:=λh=>
  zK0 (λe ρ' ds' w' _ _ hk=>by cases e <;> exact hk) h
 intro c
 induction c with
 | seq x y ihx ihy=>
  intro Q ρ ds w h
  have h:TrL P n (zVi x ++ zVi y) Q ρ ds w:=h
  have split:∀(xs:List Code) {ρ:Env} {ds:List Deferred} {w:World},TrL P n (xs ++ zVi y) Q ρ ds w->TrL P n xs (zKh (TrL P n (zVi y) Q) Q) ρ ds w:=by
   intro xs
   induction xs with
   | nil=>intro ρ ds w h;exact h
   | cons c xs ih=>
    intro ρ ds w h
    refine zK0 (λe ρ' ds' w' _ _ hk=>?_) h
    cases e with
    | normal=>exact ih hk
    | _=>exact hk
  refine xVi (zK0 (λe ρ' ds' w' _ _ hk=>?_) (ihx (split _ h)))
  cases e with
  | normal=>exact ihy hk
  | _=>exact hk
 | _=>intro Q ρ ds w h;exact one h
theorem zVz{n:Nat}:∀{cs:List Code} {Q:EQ} {ρ:Env} {ds:List Deferred} {w:World},zKl n cs=true->ptL P cs Q ρ ds w->TrL P n cs Q ρ ds w
 | [],_,_,_,_,_,h=>h
 | c :: cs,Q,ρ,ds,w,hf,h=>by
  simp only[zKl,List.all_cons,Bool.and_eq_true]at hf
  refine zK0 (λe ρ' ds' w' _ _ hk=>?_) (zJf hf.1 h)
  cases e with
  | normal=>exact zVz hf.2 hk
  | _=>exact hk
theorem xZ5 {n:Nat} {pre suf:List Code} {K:EP} {Q:EQ} {ρ:Env} {ds:List Deferred} {w:World} (hf:zKl n pre=true) (h:ptL P pre (zKh K Q) ρ ds w)
  (hk:∀ρ' ds' w',(∀t,asgL pre t=false->ρ' t=ρ t)->(yKu pre=true->ds'=ds)->K ρ' ds' w'->TrL P n suf Q ρ' ds' w'):TrL P n (pre ++ suf) Q ρ ds w:=
 yQC (yKs (λe ρ' ds' w' h1 h2 hq=>by
  cases e with
  | normal=>exact hk ρ' ds' w' h1 h2 hq
  | _=>exact hq) (zVz hf h))
theorem xJq {n:Nat} {c:Code} {suf:List Code} {K:EP} {Q:EQ} {ρ:Env} {ds:List Deferred} {w:World} (h:Tr P n c (zKh K Q) ρ ds w)
  (hk:∀ρ' ds' w',(∀t,zY8 c t=false->ρ' t=ρ t)->(zX4 c=true->ds'=ds)->K ρ' ds' w'->TrL P n suf Q ρ' ds' w'):TrL P n (c :: suf) Q ρ ds w:=
 zK0 (λe ρ' ds' w' h1 h2 hq=>by
  cases e with
  | normal=>exact hk ρ' ds' w' h1 h2 hq
  | _=>exact hq) h
def zQF {σ:Type} (F:(σ->World->Prop)->σ->World->Prop) (s:σ) (w:World):Prop:=∀J:σ->World->Prop,(∀s w,F J s w->J s w)->J s w
theorem xYY {n:Nat} {c:Code} {Q:EQ} {σ:Type} {enc:σ->Env->Prop} {D:Env->(σ->Prop)->Prop} {F:(σ->World->Prop)->σ->World->Prop} {ρ0:Env} {ds:List Deferred} {s0:σ} {w0:World}
  (h0:enc s0 ρ0) (hnd:zX4 c=true) (hD:∀ρ K,D ρ K->∃s,enc s ρ/\K s)
  (hbody:∀(J:σ->World->Prop) s ρ w,enc s ρ->(∀t,zY8 c t=false->ρ t=ρ0 t)->F J s w->Tr P n c (zKh (λρ' _ w'=>D ρ' λs'=>J s' w') Q) ρ ds w)
  (h:zQF F s0 w0):Tr P n (.loop c) Q ρ0 ds w0:=λa hs he hd=>by
 have key:=h (λs w=>∀a':Act,a'.tmps.size=n->enc s (zQG a')->zXJ (zY8 c) (zX4 c) a a'->∀(b:Frame) (k:List Item) (cs:List Frame),
   ∃e a'' w',(lift n Q e a'' w'/\zXJ (zY8 c) (zX4 c) a a'')/\Arrives P (lone (b.at a' (.code c :: .inLoop c :: k)) cs w) b k cs e a'' w') ?_
 ·intro b k cs
  obtain⟨e,a',w',hq,harr⟩:=key a hs (by rw[he];exact h0) (zXJ.refl _ _ _) b k cs
  exact⟨e,a',w',hq,.of_steps (.one step_loop) harr⟩
 ·intro s w hF a' hs' he' hA b k cs
  have hT:=hbody _ s (zQG a') w he' (λt ht=>by rw[←he];exact hA.slots t ht) hF a' hs' rfl (by rw[←hd];exact hA.defers hnd) b (.inLoop c :: k) cs
  obtain⟨e,a₁,w₁,⟨hq,hA1⟩,harr⟩:=hT
  cases e with
  | normal=>
   obtain⟨s',sK,hJ⟩:=hD _ _ hq.2
   obtain⟨e₂,a₂,w₂,hq₂,harr₂⟩:=hJ a₁ hq.1 sK (hA.trans hA1) b k cs
   exact⟨e₂,a₂,w₂,hq₂,.of_steps (Steps.trans harr (.one step_inLoop)) harr₂⟩
  | exit id=>exact⟨.exit id,a₁,w₁,⟨⟨hq.1,hq.2⟩,hA.trans hA1⟩,.pass (x:=.inLoop c) rfl (λ_ _=>.inl (by simp)) harr⟩
  | goto l=>exact hq.elim
  | ret=>exact⟨.ret,a₁,w₁,⟨⟨hq.1,hq.2⟩,hA.trans hA1⟩,.pass (x:=.inLoop c) rfl (λ_ _=>.inl (by simp)) harr⟩
  | panic ch=>exact hq.elim
  | outgrown=>exact hq.elim
theorem yJr {σ:Type} {F:(σ->World->Prop)->σ->World->Prop} {s:σ} {w:World} (I:σ->World->Prop) (μ:σ->World->Nat) (h0:I s w)
  (hstep:∀(J:σ->World->Prop) s w,I s w->(∀s' w',I s' w'->μ s' w'<μ s w->J s' w')->F J s w):zQF F s w:=λJ hJ=>by
 have key:∀m s w,μ s w=m->I s w->J s w:=by
  intro m
  induction m using Nat.strongRecOn with
  | _ m ih=>
   intro s w hm hI
   exact hJ s w (hstep J s w hI λs' w' hI' hlt=>ih _ (hm ▸ hlt) s' w' rfl hI')
 exact key _ s w rfl h0
def xK0(P:Program):List ResultVar->Env->World->(List Value->Prop)->Prop
 | [],_,_,K=>K []
 | .tmp t :: rs,ρ,w,K=>xK0 P rs ρ w λvs=>K (ρ t :: vs)
 | .cell a t :: rs,ρ,w,K=>zVg (ρ a) λad=>xXm P t ad w λv=>xK0 P rs ρ w λvs=>K (v :: vs)
def resV:List Value->Value
 | [v]=>v
 | vs=>.tuple vs.toArray
def xJb(P:Program)(d:Deferred)(w:World)(K:World->Prop):Prop:=match d.target with
 | .fn (.func f) cap=>match zQ6 P f with
  | true=>CallsD P f (d.args.toList ++ cap.toList).toArray .returning w λe u w'=>(∃v,e=.returned v)/\u=.returning/\K w'
  | false=>False
 | _=>False
def zQc(P:Program):List Deferred->World->(World->Prop)->Prop
 | [],w,K=>K w
 | d :: ds,w,K=>xJb P d w λw=>zQc P ds w K
def endQ(P:Program)(rs:List ResultVar)(R:Ending->World->Prop):EQ
 | .normal=>λρ ds w=>zQc P ds w λw=>xK0 P rs ρ w λvs=>R (.returned (resV vs)) w
 | .ret=>λρ ds w=>zQc P ds w λw=>xK0 P rs ρ w λvs=>R (.returned (resV vs)) w
 | _=>λ_ _ _=>False
def xQN(a:Act):ResultVar->Sem Value
 | .tmp t=>pure (a.tmps.getD t undef)
 | .cell x t=>do loadVar t (←asAddr (a.tmps.getD x undef))
theorem yWa{rs:List ResultVar}{a:Act}{w:World}:∀{K:List Value->Prop},xK0 P rs (zQG a) w K->∃vs,(rs.mapM (xQN a)).run P w=.ok vs w/\K vs:=by
 induction rs with
 | nil=>intro K h;exact⟨[],by simp,h⟩
 | cons r rs ih=>
  intro K h
  cases r with
  | tmp t=>
   obtain⟨vs,h1,h2⟩:=ih h
   refine⟨_,?_,h2⟩
   rw[List.mapM_cons]
   simp only[xQN,Sem.run_bind,Sem.run_pure,Result.andThen_ok]
   rw[h1];rfl
  | cell x t=>
   obtain⟨ad,hx,h⟩:=zXm h
   obtain⟨v,hv,h⟩:=zWx h
   obtain⟨vs,h1,h2⟩:=ih h
   refine⟨_,?_,h2⟩
   have hx':a.tmps.getD x undef=.pointer (some ad):=hx
   have hd:(xQN a (.cell x t)).run P w=.ok v w:=by simp only[xQN,hx',asAddr,Sem.run_bind,Sem.run_pure,Result.andThen_ok,hv]
   rw[List.mapM_cons]
   simp only[Sem.run_bind,hd,Result.andThen_ok,h1,Sem.run_pure]
theorem zJN {fn:Func} {a:Act} {w:World} {K:Value->Prop} (h:xK0 P fn.results.toList (zQG a) w λvs=>K (resV vs)):∃v,(results fn a.tmps).run P w=.ok v w/\K v:=by
 obtain⟨vs,h1,h2⟩:=yWa h
 refine⟨_,?_,h2⟩
 have e:results fn a.tmps=(do let vs ←fn.results.mapM (xQN a);pure (if h:vs.size=1 then vs[0]else .tuple vs)):=by
  unfold results
  congr 1
 rw[e,Array.mapM_eq_mapM_toList]
 simp only[Sem.run_bind,Sem.run_map,h1,Result.andThen_ok,Sem.run_pure]
 congr 1
 match vs with
 | []=>rfl
 | [v]=>rfl
 | v :: v' :: vs=>simp[resV]
theorem zJy{fn:Func}{a:Act}{R:Ending->World->Prop}:∀{ds:List Deferred} {w:World},
  (zQc P ds w λw=>xK0 P fn.results.toList (zQG a) w λvs=>R (.returned (resV vs)) w)->Leaves P fn a.tmps R ds .returning w
 | [],w,h=>by
  obtain⟨v,h1,h2⟩:=zJN (K:=λv=>R (.returned v) w) h
  exact⟨v,h1,h2⟩
 | d :: ds,w,h=>by
  have h:xJb P d w λw=>zQc P ds w λw=>xK0 P fn.results.toList (zQG a) w λvs=>R (.returned (resV vs)) w:=h
  unfold xJb at h
  split at h
  case h_2=>exact h.elim
  rename_i f cap ht
  split at h
  case h_2=>exact h.elim
  rename_i hb
  refine⟨by simp,.func f,cap,f,(d.args.toList ++ cap.toList).toArray,ht,?_,CallsD.mono h λe u w' hh=>?_⟩
  ·rw[ht]
   have e2:(d.args.toList ++ cap.toList).toArray=d.args ++ cap:=by apply Array.ext';simp
   rw[e2]
   exact zK6 hb _ _
  ·obtain⟨⟨v,rfl⟩,rfl,hr⟩:=hh
   exact zJy hr
def zVO(args:List Value):Env:=λt=>args.getD t undef
theorem yKp{args:Array Value}{n:Nat}(h:args.size<=n):(args ++ Array.replicate (n - args.size) undef).size=n/\
  zQG { tmps:=args ++ Array.replicate (n - args.size) undef,defers:=[] }=zVO args.toList:=by
 refine⟨by simp;omega,?_⟩
 funext t
 simp only[zQG,zVO]
 by_cases ht:t<args.size
 ·simp[ht,Array.getElem?_append_left]
 ·have h1:args.toList[t]?=none:=by apply List.getElem?_eq_none;simp;omega
  have h2:(args ++ Array.replicate (n - args.size) undef)[t]?.getD undef=undef:=by
   rw[Array.getElem?_append_right (by omega)]
   cases hr:(Array.replicate (n - args.size) undef)[t - args.size]? with
   | none=>rfl
   | some v=>
    have:=Array.getElem?_eq_some_iff.1 hr
    obtain⟨hlt,hv⟩:=this
    simp at hv
    rw[←hv];rfl
  simp only[Array.getD_eq_getD_getElem?,List.getD_eq_getElem?_getD,h1,h2];rfl
theorem yJ5 {f:FuncId} {fn:Func} {c:Code} {args:Array Value} {w:World} {R:Ending->World->Prop} (hf:P.funcs[f]?=some fn) (hb:fn.body=some c) (hn:args.size<=fn.ntmps)
  (h:TrL P fn.ntmps (zVi c) (endQ P fn.results.toList R) (zVO args.toList) [] w):Calls P f args w R:=by
 obtain⟨hs,he⟩:=yKp hn
 refine calls_of_wp_defers hf hb (wp_mono (zWw h _ hs he rfl) λe a' w' ⟨h1,_⟩=>?_)
 cases e with
 | normal=>exact zJy h1.2
 | ret=>exact zJy h1.2
 | exit id=>exact h1.2.elim
 | _=>exact h1.elim
theorem yZR {f:FuncId} {fn:Func} {c:Code} {args:Array Value} {w:World} {R:Ending->World->Prop} (hf:P.funcs[f]?=some fn) (hb:fn.body=some c) (hn:args.size<=fn.ntmps) (hnd:zX4 c=true)
  (h:TrL P fn.ntmps (zVi c) (endQ P fn.results.toList R) (zVO args.toList) [] w) (u:FrameMode):CallsD P f args u w λe u' w'=>u'=u/\R e w':=by
 obtain⟨hs,he⟩:=yKp hn
 refine callsD_of_wp hf hb (wp_mono (zWw h _ hs he rfl) λe a' w' ⟨h1,h2⟩=>?_)
 have hd:a'.defers=[]:=h2.defers hnd
 cases e with
 | normal=>have h3:=h1.2;rw[hd]at h3;obtain⟨v,h4,h5⟩:=zJN (K:=λv=>R (.returned v) w') h3;exact⟨hd,v,h4,h5⟩
 | ret=>have h3:=h1.2;rw[hd]at h3;obtain⟨v,h4,h5⟩:=zJN (K:=λv=>R (.returned v) w') h3;exact⟨hd,v,h4,h5⟩
 | exit id=>exact h1.2.elim
 | _=>exact h1.elim
end Go.Sh
