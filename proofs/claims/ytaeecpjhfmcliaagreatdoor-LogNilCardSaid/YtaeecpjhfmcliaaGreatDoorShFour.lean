import Derived.Test.YtaeecpjhfmcliaaGreatDoorShThree
/- Regions and code of the shallow semantics, and their soundness: 'ptE' gives a triple 'Tr' of the model's code; the rules by which triples are joined; a function's call. For every program. -/
namespace Go.Sh
variable {P : Program}
abbrev EP:=Env->List Deferred->World->Prop
abbrev EQ:=Exit->EP
theorem zKp{ρ:Env}{t:Nat}{v:Value}(h:ρ t=v):zK0 ρ t v=ρ:=by
 funext u
 unfold zK0
 cases hu:Nat.beq u t with
 | false=>rfl
 | true=>rw[Nat.eq_of_beq_eq_true hu];exact h.symm
def yQU(ops:Array Oper)(o:Oper)(ρ:Env)(Y N:Env->Prop):Prop:=
 match o.guard with
 | none=>Y ρ
 | some (j,want)=>match (ops[j]?).bind (·.dst)with
  | none=>False
  | some t=>match ρ t with
   | .bool b=>Br b (match want with|true=>Y (zK0 ρ t (.bool true))|false=>N (zK0 ρ t (.bool true))) (match want with|true=>N (zK0 ρ t (.bool false))|false=>Y (zK0 ρ t (.bool false)))
   | .tuple _=>N ρ
   | _=>False
def zKE(n:Nat)(ops:Array Oper):Bool:=ops.toList.all λo=>match o.dst with
 | some d=>Nat.blt d n
 | none=>true
theorem zJl{n:Nat}{ops:Array Oper}(h:zKE n ops=true){o:Oper}(ho:o ∈ ops.toList){d:Nat}(hd:o.dst=some d):d<n:=by
 have:=List.all_eq_true.1 h o ho
 simp only[hd]at this
 simpa[Nat.blt_eq] using this
theorem zJg {n:Nat} {ops:Array Oper} (hf:zKE n ops=true) {o:Oper} {a:Act} (hs:a.tmps.size=n) {Y N:Env->Prop} (h:yQU ops o (zQ0 a) Y N) :
  (Region.wanted o (yielded ops a.tmps)=true/\Y (zQ0 a))∨(Region.wanted o (yielded ops a.tmps)=false/\N (zQ0 a)):=by
 unfold yQU at h
 unfold Region.wanted
 split at h
 ·rename_i hg;rw[hg];exact .inl ⟨rfl,h⟩
 ·rename_i j want hg
  rw[hg]
  split at h
  ·exact h.elim
  ·rename_i t ht
   obtain⟨oj,hoj,hdst⟩:=Option.bind_eq_some_iff.1 ht
   have hlt:t<a.tmps.size:=by rw[hs];exact zJl hf (List.mem_of_getElem? (l:=ops.toList) (i:=j) (by simpa using hoj)) hdst
   have hy:yielded ops a.tmps j=match zQ0 a t with|.bool b=>some b|_=>none:=by
    unfold yielded
    rw[ht]
    simp only[Option.bind_some,zQ0]
    rw[Array.getElem?_eq_getElem hlt]
    have:a.tmps.getD t undef=a.tmps[t]:=by simp[hlt]
    rw[this]
    cases a.tmps[t] <;> rfl
   split at h
   ·rename_i b hb
    rw[hb]at hy
    simp only at hy
    cases b <;> cases want <;> simp only[Br]at h <;> rw[zKp hb]at h <;> simp only[hy]
    ·exact .inl ⟨rfl,h⟩
    ·exact .inr ⟨rfl,h⟩
    ·exact .inr ⟨rfl,h⟩
    ·exact .inl ⟨rfl,h⟩
   ·rename_i x hb
    rw[hb]at hy
    simp only at hy
    simp only[hy]
    exact .inr ⟨by cases want <;> rfl,h⟩
   ·exact h.elim
def opsE(P:Program)(ops:Array Oper)(K:EP):List Oper->EP
 | [],ρ,ds,w=>K ρ ds w
 | o :: rest,ρ,ds,w=>yQU ops o ρ (λρ=>opE P o ρ ds w λv ds w=>opsE P ops K rest (upd ρ o.dst v) ds w) (λρ=>opsE P ops K rest (upd ρ o.dst undef) ds w)
def lift(n:Nat)(Q:EQ):Exit->Act->World->Prop
 | .panic _,_,_=>False
 | .outgrown,_,_=>False
 | .goto _,_,_=>False
 | e,a,w=>a.tmps.size=n/\Q e (zQ0 a) a.defers w
def zX5(ops:List Oper)(t:Nat):Bool:=ops.any λo=>match o.dst with
 | some d=>Nat.beq d t
 | none=>false
def zQO(ops:List Oper):Bool:=ops.all λo=>match o.op with
 | .defer _=>false
 | _=>true
structure zXo(g:Nat->Bool)(nd:Bool)(a a':Act):Prop where
 size:a'.tmps.size=a.tmps.size
 slots:∀t,g t=false->zQ0 a' t=zQ0 a t
 defers:nd=true->a'.defers=a.defers
theorem zXo.refl(g:Nat->Bool)(nd:Bool)(a:Act):zXo g nd a a:=⟨rfl,λ_ _=>rfl,λ_=>rfl⟩
theorem zXo.trans{g:Nat->Bool}{nd:Bool}{a b c:Act}(h:zXo g nd a b)(h':zXo g nd b c):zXo g nd a c:=
 ⟨h'.size.trans h.size,λt ht=>(h'.slots t ht).trans (h.slots t ht),λhd=>(h'.defers hd).trans (h.defers hd)⟩
theorem zXo.weaken{g g':Nat->Bool}{nd nd':Bool}{a b:Act}(h:zXo g nd a b)(hg:∀t,g' t=false->g t=false)(hn:nd'=true->nd=true):zXo g' nd' a b:=
 ⟨h.size,λt ht=>h.slots t (hg t ht),λhd=>h.defers (hn hd)⟩
theorem Act.put_size(a:Act)(d:Option Nat)(v:Value):(a.put d v).tmps.size=a.tmps.size:=by cases d <;> simp[Act.put]
theorem Act.put_def(a:Act)(d:Option Nat)(v:Value):(a.put d v).defers=a.defers:=by cases d <;> rfl
theorem zXo.put(a:Act)(o:Oper)(v:Value)(nd:Bool):zXo (zX5 [o]) nd a (a.put o.dst v):=by
 refine⟨Act.put_size _ _ _,λt ht=>?_,λ_=>Act.put_def _ _ _⟩
 cases hd:o.dst with
 | none=>rfl
 | some d=>
  have hne:d ≠ t:=by
   intro e;subst e
   simp[zX5,hd]at ht
  simp[zQ0,Act.put,Array.getElem?_setIfInBounds_ne hne]
theorem zVD{n:Nat}{ops:Array Oper}(hf:zKE n ops=true){K:EP}{Q:Exit->Act->World->Prop}:∀(l:List Oper),(∀o,o ∈ l->o ∈ ops.toList)->∀(a:Act) (w:World),a.tmps.size=n->
  opsE P ops K l (zQ0 a) a.defers w->(∀a' w',zXo (zX5 l) (zQO l) a a'->K (zQ0 a') a'.defers w'->Q .normal a' w')->wpList P ops Q l a w
 | [],_,a,w,_,h,hQ=>hQ a w (zXo.refl _ _ _) h
 | o :: rest,hm,a,w,hs,h,hQ=>by
  have hput:∀d,o.dst=some d->d<a.tmps.size:=λd hd=>by rw[hs];exact zJl hf (hm o (by simp)) hd
  have tw:∀t,zX5 (o :: rest) t=false->zX5 [o] t=false:=λt ht=>by simp only[zX5,List.any_cons,Bool.or_eq_false_iff,List.any_nil]at ht ⊢;exact⟨ht.1,trivial⟩
  have yR:∀t,zX5 (o :: rest) t=false->zX5 rest t=false:=λt ht=>by simp only[zX5,List.any_cons,Bool.or_eq_false_iff]at ht ⊢;exact ht.2
  have tX:zQO (o :: rest)=true->zQO [o]=true:=λht=>by simp only[zQO,List.all_cons,Bool.and_eq_true,List.all_nil]at ht ⊢;exact⟨ht.1,trivial⟩
  have qA:zQO (o :: rest)=true->zQO rest=true:=λht=>by simp only[zQO,List.all_cons,Bool.and_eq_true]at ht ⊢;exact ht.2
  have ih:∀(b:Act) (w:World),zXo (zX5 [o]) (zQO [o]) a b->opsE P ops K rest (zQ0 b) b.defers w->wpList P ops Q rest b w:=λb w hab hb=>
   zVD hf rest (λx hx=>hm x (by simp[hx])) b w (hab.size.trans hs) hb λa' w' hag hK=>hQ a' w' ((hab.weaken tw tX).trans (hag.weaken yR qA)) hK
  unfold wpList
  rcases zJg hf hs h with⟨hw,hY⟩|⟨hw,hN⟩
  ·rw[if_pos hw]
   refine .inl (yQX hY _ _ λv ds w' hK hds=>ih _ w' ?_ ?_)
   ·have h1:=zXo.put { a with defers:=ds } o v (zQO [o])
    refine⟨h1.size,h1.slots,λhd=>?_⟩
    rw[Act.put_def]
    exact hds λc hc=>by simp[zQO,hc]at hd
   ·rw[zJx (a:={ a with defers:=ds }) hput,Act.put_def];exact hK
  ·rw[if_neg (by rw[hw];simp)]
   refine ih _ w (zXo.put a o _ _) ?_
   rw[zJx hput,Act.put_def];exact hN
end Go.Sh
