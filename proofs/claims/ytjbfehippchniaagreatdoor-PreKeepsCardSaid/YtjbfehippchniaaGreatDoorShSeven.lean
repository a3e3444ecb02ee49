import Derived.Test.YtjbfehippchniaaGreatDoorShSix
/- Code: the shallow semantics 'ptE', triples 'Tr', the rules that join them, and a function's call. For every program. -/
namespace Go.Sh
variable {P : Program}
def Br'(v:Value)(X Y:Prop):Prop:=boolE v λb=>Br b X Y
def thenQ(K:EP)(Q:EQ):EQ
  | .normal=>K
  | e=>Q e
def blockQ(id:Nat)(Q:EQ):EQ
  | .exit j=>cond (Nat.beq j id) (Q .normal) (Q (.exit j))
  | e=>Q e
def ptE(P:Program):Code → EQ → EP
  | .skip,Q=>Q .normal
  | .region _ ops draw,Q=>match draw with
    | false=>opsE P ops (Q .normal) ops.toList
    | true=>drawnE P ops (Q .normal)
  | .seq x y,Q=>ptE P x (thenQ (ptE P y Q) Q)
  | .cond c x y,Q=>λρ ds w=>Br' (ev ρ c) (ptE P x Q ρ ds w) (ptE P y Q ρ ds w)
  | .block id c,Q=>ptE P c (blockQ id Q)
  | .scope c,Q=>ptE P c Q
  | .exit id,Q=>Q (.exit id)
  | .ret,Q=>Q .ret
  | _,_=>λ_ _ _=>False
def asgC:Code → Nat → Bool
  | .region _ ops _,t=>asgOps ops.toList t
  | .seq x y,t=>asgC x t || asgC y t
  | .cond _ x y,t=>asgC x t || asgC y t
  | .block _ c,t=>asgC c t
  | .loop c,t=>asgC c t
  | .scope c,t=>asgC c t
  | _,_=>false
def noDefC:Code → Bool
  | .region _ ops _=>noDefOps ops.toList
  | .seq x y=>noDefC x && noDefC y
  | .cond _ x y=>noDefC x && noDefC y
  | .block _ c=>noDefC c
  | .loop c=>noDefC c
  | .scope c=>noDefC c
  | _=>true
def fitsC(n:Nat):Code → Bool
  | .region _ ops _=>fitsOps n ops
  | .seq x y=>fitsC n x && fitsC n y
  | .cond _ x y=>fitsC n x && fitsC n y
  | .block _ c=>fitsC n c
  | .loop c=>fitsC n c
  | .scope c=>fitsC n c
  | _=>true
/-- The code, begun in this environment, ends as 'Q' says, and leaves alone what it does not write. -/
def Tr(P:Program)(n:Nat)(c:Code)(Q:EQ)(ρ:Env)(ds:List Deferred)(w:World):Prop:=
  ∀a:Act,a.tmps.size=n → envOf a=ρ → a.defers=ds → c.wp P (λe a' w'=>lift n Q e a' w' ∧ Agree (asgC c) (noDefC c) a a') a w
theorem Tr_mono{n:Nat}{c:Code}{Q Q':EQ}{ρ:Env}{ds:List Deferred}{w:World}
    (hq:∀e ρ' ds' w',(∀t,asgC c t=false → ρ' t=ρ t) → (noDefC c=true → ds'=ds) → Q e ρ' ds' w' → Q' e ρ' ds' w') (h:Tr P n c Q ρ ds w):Tr P n c Q' ρ ds w:=λa hs he hd=>
  wp_mono (h a hs he hd) λe a' w' ⟨h1,h2⟩=>by
    refine⟨?_,h2⟩
    have key:Q e (envOf a') a'.defers w' → Q' e (envOf a') a'.defers w':=hq e _ _ _ (λt ht=>by rw[←he];exact h2.slots t ht) (λhn=>by rw[←hd];exact h2.defers hn)
    cases e <;> first|exact h1.elim|exact⟨h1.1,key h1.2⟩
theorem Tr_seq {n:Nat} {x y:Code} {Q:EQ} {ρ:Env} {ds:List Deferred} {w:World} (h:Tr P n x (thenQ (Tr P n y Q) Q) ρ ds w):Tr P n (.seq x y) Q ρ ds w:=λa hs he hd=>
  wp_seq (wp_mono (h a hs he hd) λe a' w' ⟨h1,h2⟩=>by
    have hw:Agree (asgC (.seq x y)) (noDefC (.seq x y)) a a':=h2.weaken (λt ht=>by simp only[asgC,Bool.or_eq_false_iff]at ht;exact ht.1) (λhn=>by simp only[noDefC,Bool.and_eq_true]at hn;exact hn.1)
    cases e with
    | normal=>
      refine wp_mono (h1.2 a' h1.1 rfl rfl) λe a'' w'' ⟨h3,h4⟩=>⟨h3,hw.trans (h4.weaken (λt ht=>?_) λhn=>?_)⟩
      · simp only[asgC,Bool.or_eq_false_iff]at ht;exact ht.2
      · simp only[noDefC,Bool.and_eq_true]at hn;exact hn.2
    | _=>first|exact h1.elim|exact⟨h1,hw⟩)
theorem Tr_cond {n:Nat} {c:Operand} {x y:Code} {Q:EQ} {ρ:Env} {ds:List Deferred} {w:World} (h:Br' (ev ρ c) (Tr P n x Q ρ ds w) (Tr P n y Q ρ ds w)):Tr P n (.cond c x y) Q ρ ds w:=λa hs he hd=>by
  unfold Br' boolE at h
  split at h
  case h_2=>exact h.elim
  rename_i b hb
  rw[←he,ev_envOf]at hb
  cases b with
  | true=>
    refine wp_cond_true hb (wp_mono (h a hs he hd) λe a' w' ⟨h1,h2⟩=>⟨h1,h2.weaken (λt ht=>?_) λhn=>?_⟩)
    · simp only[asgC,Bool.or_eq_false_iff]at ht;exact ht.1
    · simp only[noDefC,Bool.and_eq_true]at hn;exact hn.1
  | false=>
    refine wp_cond_false hb (wp_mono (h a hs he hd) λe a' w' ⟨h1,h2⟩=>⟨h1,h2.weaken (λt ht=>?_) λhn=>?_⟩)
    · simp only[asgC,Bool.or_eq_false_iff]at ht;exact ht.2
    · simp only[noDefC,Bool.and_eq_true]at hn;exact hn.2
theorem Tr_block {n id:Nat} {c:Code} {Q:EQ} {ρ:Env} {ds:List Deferred} {w:World} (h:Tr P n c (blockQ id Q) ρ ds w):Tr P n (.block id c) Q ρ ds w:=λa hs he hd=>
  wp_block (wp_mono (h a hs he hd) λe a' w' ⟨h1,h2⟩=>by
    have h2':Agree (asgC (.block id c)) (noDefC (.block id c)) a a':=h2
    cases e with
    | exit j=>
      simp only[lift,blockQ]at h1
      simp only[Exit.inBlock]
      by_cases hj:j=id
      · subst hj
        rw[if_pos rfl]
        have:Nat.beq j j=true:=Nat.beq_refl j
        rw[this]at h1
        exact⟨⟨h1.1,h1.2⟩,h2'⟩
      · rw[if_neg hj]
        have:Nat.beq j id=false:=by cases hb:Nat.beq j id;rfl;exact absurd (Nat.eq_of_beq_eq_true hb) hj
        rw[this]at h1
        exact⟨⟨h1.1,h1.2⟩,h2'⟩
    | _=>exact⟨h1,h2'⟩)
theorem Tr_scope{n:Nat}{c:Code}{Q:EQ}{ρ:Env}{ds:List Deferred}{w:World}(h:Tr P n c Q ρ ds w):Tr P n (.scope c) Q ρ ds w:=λa hs he hd=>
  wp_scope_straight (wp_mono (h a hs he hd) λe a' w' ⟨h1,h2⟩=>by
    have h2':Agree (asgC (.scope c)) (noDefC (.scope c)) a a':=h2
    cases e with
    | goto l=>exact h1.elim
    | _=>exact⟨h1,h2'⟩)
theorem Tr_of_ptE{n:Nat}:∀{c:Code} {Q:EQ} {ρ:Env} {ds:List Deferred} {w:World},fitsC n c=true → ptE P c Q ρ ds w → Tr P n c Q ρ ds w
  | .skip,Q,ρ,ds,w,_,h=>λa hs he hd=>wp_skip ⟨⟨hs,by rw[he,hd];exact h⟩,Agree.refl _ _ _⟩
  | .region id ops false,Q,ρ,ds,w,hf,h=>λa hs he hd=>by
    subst he;subst hd
    exact wp_region_list (opsE_sound hf ops.toList (λ_ h=>h) a w hs h λa' w' hA hK=>⟨⟨hA.size.trans hs,hK⟩,hA⟩)
  | .region id ops true,Q,ρ,ds,w,hf,h=>λa hs he hd=>by
    subst he;subst hd
    exact drawnE_sound hf (λc a w h=>h.1.elim) hs (λa' w' hA hK=>⟨⟨hA.size.trans hs,hK⟩,hA⟩) h
  | .seq x y,Q,ρ,ds,w,hf,h=>by
    simp only[fitsC,Bool.and_eq_true]at hf
    refine Tr_seq (Tr_mono (λe ρ' ds' w' _ _ hq=>?_) (Tr_of_ptE hf.1 h))
    cases e with
    | normal=>exact Tr_of_ptE hf.2 hq
    | _=>exact hq
  | .cond c x y,Q,ρ,ds,w,hf,h=>by
    simp only[fitsC,Bool.and_eq_true]at hf
    refine Tr_cond ?_
    have h:Br' (ev ρ c) (ptE P x Q ρ ds w) (ptE P y Q ρ ds w):=h
    unfold Br' boolE at h ⊢
    split at h
    case h_2=>exact h.elim
    rename_i b hb
    cases b with
    | true=>exact Tr_of_ptE hf.1 h
    | false=>exact Tr_of_ptE hf.2 h
  | .block id c,Q,ρ,ds,w,hf,h=>Tr_block (Tr_of_ptE hf h)
  | .scope c,Q,ρ,ds,w,hf,h=>Tr_scope (Tr_of_ptE hf h)
  | .exit id,Q,ρ,ds,w,_,h=>λa hs he hd=>wp_exit ⟨⟨hs,by rw[he,hd];exact h⟩,Agree.refl _ _ _⟩
  | .ret,Q,ρ,ds,w,_,h=>λa hs he hd=>wp_ret ⟨⟨hs,by rw[he,hd];exact h⟩,Agree.refl _ _ _⟩
def flat:Code → List Code
  | .seq x y=>flat x ++ flat y
  | c=>[c]
def ptL(P:Program):List Code → EQ → EP
  | [],Q=>Q .normal
  | c :: cs,Q=>ptE P c (thenQ (ptL P cs Q) Q)
def TrL(P:Program)(n:Nat):List Code → EQ → EP
  | [],Q=>Q .normal
  | c :: cs,Q=>Tr P n c (thenQ (TrL P n cs Q) Q)
def fitsL(n:Nat)(cs:List Code):Bool:=cs.all (fitsC n)
def asgL(cs:List Code)(t:Nat):Bool:=cs.any λc=>asgC c t
def noDefL(cs:List Code):Bool:=cs.all noDefC
theorem TrL_mono{n:Nat}:∀{cs:List Code} {Q Q':EQ} {ρ:Env} {ds:List Deferred} {w:World},
    (∀e ρ' ds' w',(∀t,asgL cs t=false → ρ' t=ρ t) → (noDefL cs=true → ds'=ds) → Q e ρ' ds' w' → Q' e ρ' ds' w') → TrL P n cs Q ρ ds w → TrL P n cs Q' ρ ds w
  | [],_,_,_,_,_,hq,h=>hq .normal _ _ _ (λ_ _=>rfl) (λ_=>rfl) h
  | c :: cs,Q,Q',ρ,ds,w,hq,h=>Tr_mono (λe ρ' ds' w' h1 h2 hk=>by
      cases e with
      | normal=>
        refine TrL_mono (λe ρ'' ds'' w'' h3 h4 hk=>hq e ρ'' ds'' w'' (λt ht=>?_) (λhn=>?_) hk) hk
        · simp only[asgL,List.any_cons,Bool.or_eq_false_iff]at ht
          exact(h3 t ht.2).trans (h1 t ht.1)
        · simp only[noDefL,List.all_cons,Bool.and_eq_true]at hn
          exact(h4 hn.2).trans (h2 hn.1)
      | _=>
        refine hq _ _ _ _ (λt ht=>?_) (λhn=>?_) hk
        · simp only[asgL,List.any_cons,Bool.or_eq_false_iff]at ht;exact h1 t ht.1
        · simp only[noDefL,List.all_cons,Bool.and_eq_true]at hn;exact h2 hn.1) h
theorem TrL_append{n:Nat}:∀{xs ys:List Code} {Q:EQ} {ρ:Env} {ds:List Deferred} {w:World},TrL P n xs (thenQ (TrL P n ys Q) Q) ρ ds w → TrL P n (xs ++ ys) Q ρ ds w
  | [],_,_,_,_,_,h=>h
  | c :: xs,ys,Q,ρ,ds,w,h=>Tr_mono (λe ρ' ds' w' _ _ hk=>by
      cases e with
      | normal=>exact TrL_append hk
      | _=>exact hk) h
theorem Tr_of_L{n:Nat}:∀{c:Code} {Q:EQ} {ρ:Env} {ds:List Deferred} {w:World},TrL P n (flat c) Q ρ ds w → Tr P n c Q ρ ds w:=by
  have one:∀{c:Code} {Q:EQ} {ρ:Env} {ds:List Deferred} {w:World},TrL P n [c] Q ρ ds w → Tr P n c Q ρ ds w:=λh=>
    Tr_mono (λe ρ' ds' w' _ _ hk=>by cases e <;> exact hk) h
  intro c
  induction c with
  | seq x y ihx ihy=>
    intro Q ρ ds w h
    have h:TrL P n (flat x ++ flat y) Q ρ ds w:=h
    have split:∀(xs:List Code) {ρ:Env} {ds:List Deferred} {w:World},TrL P n (xs ++ flat y) Q ρ ds w → TrL P n xs (thenQ (TrL P n (flat y) Q) Q) ρ ds w:=by
      intro xs
      induction xs with
      | nil=>intro ρ ds w h;exact h
      | cons c xs ih=>
        intro ρ ds w h
        refine Tr_mono (λe ρ' ds' w' _ _ hk=>?_) h
        cases e with
        | normal=>exact ih hk
        | _=>exact hk
    refine Tr_seq (Tr_mono (λe ρ' ds' w' _ _ hk=>?_) (ihx (split _ h)))
    cases e with
    | normal=>exact ihy hk
    | _=>exact hk
  | _=>intro Q ρ ds w h;exact one h
theorem TrL_of_ptL{n:Nat}:∀{cs:List Code} {Q:EQ} {ρ:Env} {ds:List Deferred} {w:World},fitsL n cs=true → ptL P cs Q ρ ds w → TrL P n cs Q ρ ds w
  | [],_,_,_,_,_,h=>h
  | c :: cs,Q,ρ,ds,w,hf,h=>by
    simp only[fitsL,List.all_cons,Bool.and_eq_true]at hf
    refine Tr_mono (λe ρ' ds' w' _ _ hk=>?_) (Tr_of_ptE hf.1 h)
    cases e with
    | normal=>exact TrL_of_ptL hf.2 hk
    | _=>exact hk
/-- A first piece walked, what follows it by itself. -/
theorem TrL_join {n:Nat} {pre suf:List Code} {K:EP} {Q:EQ} {ρ:Env} {ds:List Deferred} {w:World} (hf:fitsL n pre=true) (h:ptL P pre (thenQ K Q) ρ ds w)
    (hk:∀ρ' ds' w',(∀t,asgL pre t=false → ρ' t=ρ t) → (noDefL pre=true → ds'=ds) → K ρ' ds' w' → TrL P n suf Q ρ' ds' w'):TrL P n (pre ++ suf) Q ρ ds w:=
  TrL_append (TrL_mono (λe ρ' ds' w' h1 h2 hq=>by
    cases e with
    | normal=>exact hk ρ' ds' w' h1 h2 hq
    | _=>exact hq) (TrL_of_ptL hf h))
/-- A first item by its own triple. -/
theorem TrL_cons {n:Nat} {c:Code} {suf:List Code} {K:EP} {Q:EQ} {ρ:Env} {ds:List Deferred} {w:World} (h:Tr P n c (thenQ K Q) ρ ds w)
    (hk:∀ρ' ds' w',(∀t,asgC c t=false → ρ' t=ρ t) → (noDefC c=true → ds'=ds) → K ρ' ds' w' → TrL P n suf Q ρ' ds' w'):TrL P n (c :: suf) Q ρ ds w:=
  Tr_mono (λe ρ' ds' w' h1 h2 hq=>by
    cases e with
    | normal=>exact hk ρ' ds' w' h1 h2 hq
    | _=>exact hq) h
def loopT {σ:Type} (F:(σ → World → Prop) → σ → World → Prop) (s:σ) (w:World):Prop:=∀J:σ → World → Prop,(∀s w,F J s w → J s w) → J s w
theorem Tr_loop {n:Nat} {c:Code} {Q:EQ} {σ:Type} {enc:σ → Env → Prop} {D:Env → (σ → Prop) → Prop} {F:(σ → World → Prop) → σ → World → Prop} {ρ0:Env} {ds:List Deferred} {s0:σ} {w0:World}
    (h0:enc s0 ρ0) (hnd:noDefC c=true) (hD:∀ρ K,D ρ K → ∃s,enc s ρ ∧ K s)
    (hbody:∀(J:σ → World → Prop) s ρ w,enc s ρ → (∀t,asgC c t=false → ρ t=ρ0 t) → F J s w → Tr P n c (thenQ (λρ' _ w'=>D ρ' λs'=>J s' w') Q) ρ ds w)
    (h:loopT F s0 w0):Tr P n (.loop c) Q ρ0 ds w0:=λa hs he hd=>by
  have key:=h (λs w=>∀a':Act,a'.tmps.size=n → enc s (envOf a') → Agree (asgC c) (noDefC c) a a' → ∀(b:Frame) (k:List Item) (cs:List Frame),
      ∃e a'' w',(lift n Q e a'' w' ∧ Agree (asgC c) (noDefC c) a a'') ∧ Arrives P (lone (b.at a' (.code c :: .inLoop c :: k)) cs w) b k cs e a'' w') ?_
  · intro b k cs
    obtain⟨e,a',w',hq,harr⟩:=key a hs (by rw[he];exact h0) (Agree.refl _ _ _) b k cs
    exact⟨e,a',w',hq,.of_steps (.one step_loop) harr⟩
  · intro s w hF a' hs' he' hA b k cs
    have hT:=hbody _ s (envOf a') w he' (λt ht=>by rw[←he];exact hA.slots t ht) hF a' hs' rfl (by rw[←hd];exact hA.defers hnd) b (.inLoop c :: k) cs
    obtain⟨e,a₁,w₁,⟨hq,hA1⟩,harr⟩:=hT
    cases e with
    | normal=>
      obtain⟨s',hs1,hJ⟩:=hD _ _ hq.2
      obtain⟨e₂,a₂,w₂,hq₂,harr₂⟩:=hJ a₁ hq.1 hs1 (hA.trans hA1) b k cs
      exact⟨e₂,a₂,w₂,hq₂,.of_steps (Steps.trans harr (.one step_inLoop)) harr₂⟩
    | exit id=>exact⟨.exit id,a₁,w₁,⟨⟨hq.1,hq.2⟩,hA.trans hA1⟩,.pass (x:=.inLoop c) rfl (λ_ _=>.inl (by simp)) harr⟩
    | goto l=>exact hq.elim
    | ret=>exact⟨.ret,a₁,w₁,⟨⟨hq.1,hq.2⟩,hA.trans hA1⟩,.pass (x:=.inLoop c) rfl (λ_ _=>.inl (by simp)) harr⟩
    | panic ch=>exact hq.elim
    | outgrown=>exact hq.elim
def resL(P:Program):List ResultVar → Env → World → (List Value → Prop) → Prop
  | [],_,_,K=>K []
  | .tmp t :: rs,ρ,w,K=>resL P rs ρ w λvs=>K (ρ t :: vs)
  | .cell a t :: rs,ρ,w,K=>addrE (ρ a) λad=>loadE P t ad w λv=>resL P rs ρ w λvs=>K (v :: vs)
def resV:List Value → Value
  | [v]=>v
  | vs=>.tuple vs.toArray
/-- A deferred call that returns, in a call that returns. -/
def dcall(P:Program)(d:Deferred)(w:World)(K:World → Prop):Prop:=match d.target with
  | .fn (.func f) cap=>match hasBody P f with
    | true=>CallsD P f (d.args.toList ++ cap.toList).toArray .returning w λe u w'=>(∃v,e=.returned v) ∧ u=.returning ∧ K w'
    | false=>False
  | _=>False
def runD(P:Program):List Deferred → World → (World → Prop) → Prop
  | [],w,K=>K w
  | d :: ds,w,K=>dcall P d w λw=>runD P ds w K
def endQ(P:Program)(rs:List ResultVar)(R:Ending → World → Prop):EQ
  | .normal=>λρ ds w=>runD P ds w λw=>resL P rs ρ w λvs=>R (.returned (resV vs)) w
  | .ret=>λρ ds w=>runD P ds w λw=>resL P rs ρ w λvs=>R (.returned (resV vs)) w
  | _=>λ_ _ _=>False
def resOf(a:Act):ResultVar → Sem Value
  | .tmp t=>pure (a.tmps.getD t undef)
  | .cell x t=>do loadVar t (←asAddr (a.tmps.getD x undef))
theorem resL_sound{rs:List ResultVar}{a:Act}{w:World}:∀{K:List Value → Prop},resL P rs (envOf a) w K → ∃vs,(rs.mapM (resOf a)).run P w=.ok vs w ∧ K vs:=by
  induction rs with
  | nil=>intro K h;exact⟨[],by simp,h⟩
  | cons r rs ih=>
    intro K h
    cases r with
    | tmp t=>
      obtain⟨vs,h1,h2⟩:=ih h
      refine⟨_,?_,h2⟩
      rw[List.mapM_cons]
      simp only[resOf,Sem.run_bind,Sem.run_pure,Result.andThen_ok]
      rw[h1];rfl
    | cell x t=>
      obtain⟨ad,hx,h⟩:=addrE_elim h
      obtain⟨v,hv,h⟩:=loadE_sound h
      obtain⟨vs,h1,h2⟩:=ih h
      refine⟨_,?_,h2⟩
      have hx':a.tmps.getD x undef=.pointer (some ad):=hx
      have hd:(resOf a (.cell x t)).run P w=.ok v w:=by simp only[resOf,hx',asAddr,Sem.run_bind,Sem.run_pure,Result.andThen_ok,hv]
      rw[List.mapM_cons]
      simp only[Sem.run_bind,hd,Result.andThen_ok,h1,Sem.run_pure]
theorem results_sound {fn:Func} {a:Act} {w:World} {K:Value → Prop} (h:resL P fn.results.toList (envOf a) w λvs=>K (resV vs)):∃v,(results fn a.tmps).run P w=.ok v w ∧ K v:=by
  obtain⟨vs,h1,h2⟩:=resL_sound h
  refine⟨_,?_,h2⟩
  have e:results fn a.tmps=(do let vs ←fn.results.mapM (resOf a);pure (if h:vs.size=1 then vs[0]else .tuple vs)):=by
    unfold results
    congr 1
  rw[e,Array.mapM_eq_mapM_toList]
  simp only[Sem.run_bind,Sem.run_map,h1,Result.andThen_ok,Sem.run_pure]
  congr 1
  match vs with
  | []=>rfl
  | [v]=>rfl
  | v :: v' :: vs=>simp[resV]
theorem leaves_of_runD{fn:Func}{a:Act}{R:Ending → World → Prop}:∀{ds:List Deferred} {w:World},
    (runD P ds w λw=>resL P fn.results.toList (envOf a) w λvs=>R (.returned (resV vs)) w) → Leaves P fn a.tmps R ds .returning w
  | [],w,h=>by
    obtain⟨v,h1,h2⟩:=results_sound (K:=λv=>R (.returned v) w) h
    exact⟨v,h1,h2⟩
  | d :: ds,w,h=>by
    have h:dcall P d w λw=>runD P ds w λw=>resL P fn.results.toList (envOf a) w λvs=>R (.returned (resV vs)) w:=h
    unfold dcall at h
    split at h
    case h_2=>exact h.elim
    rename_i f cap ht
    split at h
    case h_2=>exact h.elim
    rename_i hb
    refine⟨by simp,.func f,cap,f,(d.args.toList ++ cap.toList).toArray,ht,?_,CallsD.mono h λe u w' hh=>?_⟩
    · rw[ht]
      have e2:(d.args.toList ++ cap.toList).toArray=d.args ++ cap:=by apply Array.ext';simp
      rw[e2]
      exact run_callFunc hb _ _
    · obtain⟨⟨v,rfl⟩,rfl,hr⟩:=hh
      exact leaves_of_runD hr
def argEnv(args:List Value):Env:=λt=>args.getD t undef
theorem init_env{args:Array Value}{n:Nat}(h:args.size ≤ n):(args ++ Array.replicate (n - args.size) undef).size=n ∧
    envOf { tmps:=args ++ Array.replicate (n - args.size) undef,defers:=[] }=argEnv args.toList:=by
  refine⟨by simp;omega,?_⟩
  funext t
  simp only[envOf,argEnv]
  by_cases ht:t<args.size
  · simp[ht,Array.getElem?_append_left]
  · have h1:args.toList[t]?=none:=by apply List.getElem?_eq_none;simp;omega
    have h2:(args ++ Array.replicate (n - args.size) undef)[t]?.getD undef=undef:=by
      rw[Array.getElem?_append_right (by omega)]
      cases hr:(Array.replicate (n - args.size) undef)[t - args.size]? with
      | none=>rfl
      | some v=>
        have:=Array.getElem?_eq_some_iff.1 hr
        obtain⟨hlt,hv⟩:=this
        simp at hv
        rw[←hv];rfl
    simp only[Array.getD_eq_getD_getElem?,List.getD_eq_getElem?_getD,h1,h2];rfl
/-- A function's call, from the triple of its code. -/
theorem calls_of_Tr {f:FuncId} {fn:Func} {c:Code} {args:Array Value} {w:World} {R:Ending → World → Prop} (hf:P.funcs[f]?=some fn) (hb:fn.body=some c) (hn:args.size ≤ fn.ntmps)
    (h:TrL P fn.ntmps (flat c) (endQ P fn.results.toList R) (argEnv args.toList) [] w):Calls P f args w R:=by
  obtain⟨hs,he⟩:=init_env hn
  refine calls_of_wp_defers hf hb (wp_mono (Tr_of_L h _ hs he rfl) λe a' w' ⟨h1,_⟩=>?_)
  cases e with
  | normal=>exact leaves_of_runD h1.2
  | ret=>exact leaves_of_runD h1.2
  | exit id=>exact h1.2.elim
  | _=>exact h1.elim
end Go.Sh
