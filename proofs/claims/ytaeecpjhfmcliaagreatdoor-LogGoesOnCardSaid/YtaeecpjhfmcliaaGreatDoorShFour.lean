import Derived.Test.YtaeecpjhfmcliaaGreatDoorShThree
/- Regions and code of the shallow semantics, and their soundness: 'ptE' gives a triple 'Tr' of the model's code; the rules by which triples are joined; a function's call. For every program. -/
namespace Go.Sh
variable {P : Program}
abbrev EP:=Env->List Deferred->World->Prop
abbrev EQ:=Exit->EP
theorem zW7{ρ:Env}{t:Nat}{v:Value}(h:ρ t=v):zWV ρ t v=ρ:=by
 funext u
 unfold zWV
 cases hu:Nat.beq u t with
 | false=>rfl
 | true=>rw[Nat.eq_of_beq_eq_true hu];exact h.symm
def yXU(ops:Array Oper)(o:Oper)(ρ:Env)(Y N:Env->Prop):Prop:=
 match o.guard with
 | none=>Y ρ
 | some (j,want)=>match (ops[j]?).bind (·.dst)with
  | none=>False
  | some t=>match ρ t with
   | .bool b=>Br b (match want with|true=>Y (zWV ρ t (.bool true))|false=>N (zWV ρ t (.bool true))) (match want with|true=>N (zWV ρ t (.bool false))|false=>Y (zWV ρ t (.bool false)))
   | .tuple _=>N ρ
   | _=>False
def zVw(n:Nat)(ops:Array Oper):Bool:=ops.toList.all λo=>match o.dst with
 | some d=>Nat.blt d n
 | none=>true
theorem zKw{n:Nat}{ops:Array Oper}(h:zVw n ops=true){o:Oper}(ho:o ∈ ops.toList){d:Nat}(hd:o.dst=some d):d<n:=by
 have:=List.all_eq_true.1 h o ho
 simp only[hd]at this
 simpa[Nat.blt_eq] using this
theorem zK2 {n:Nat} {ops:Array Oper} (hf:zVw n ops=true) {o:Oper} {a:Act} (hs:a.tmps.size=n) {Y N:Env->Prop} (h:yXU ops o (zQF a) Y N) :
  (Region.wanted o (yielded ops a.tmps)=true/\Y (zQF a))∨(Region.wanted o (yielded ops a.tmps)=false/\N (zQF a)):=by
 unfold yXU at h
 unfold Region.wanted
 split at h
 ·rename_i hg;rw[hg];exact .inl ⟨rfl,h⟩
 ·rename_i j want hg
  rw[hg]
  split at h
  ·exact h.elim
  ·rename_i t ht
   obtain⟨oj,hoj,hdst⟩:=Option.bind_eq_some_iff.1 ht
   have hlt:t<a.tmps.size:=by rw[hs];exact zKw hf (List.mem_of_getElem? (l:=ops.toList) (i:=j) (by simpa using hoj)) hdst
   have hy:yielded ops a.tmps j=match zQF a t with|.bool b=>some b|_=>none:=by
    unfold yielded
    rw[ht]
    simp only[Option.bind_some,zQF]
    rw[Array.getElem?_eq_getElem hlt]
    have:a.tmps.getD t undef=a.tmps[t]:=by simp[hlt]
    rw[this]
    cases a.tmps[t] <;> rfl
   split at h
   ·rename_i b hb
    rw[hb]at hy
    simp only at hy
    cases b <;> cases want <;> simp only[Br]at h <;> rw[zW7 hb]at h <;> simp only[hy]
    ·exact .inl ⟨rfl,h⟩
    ·exact .inr ⟨rfl,h⟩
    ·exact .inr ⟨rfl,h⟩
    ·exact .inl ⟨rfl,h⟩
   ·rename_i x hb
    rw[hb]at hy
    simp only at hy
    simp only[hy]
    exact .inr ⟨by cases want <;> rfl,h⟩
   ·exact h.elim
def opsE(P:Program)(ops:Array Oper)(K:EP):List Oper->EP
 | [],ρ,ds,w=>K ρ ds w
 | o :: rest,ρ,ds,w=>yXU ops o ρ (λρ=>opE P o ρ ds w λv ds w=>opsE P ops K rest (upd ρ o.dst v) ds w) (λρ=>opsE P ops K rest (upd ρ o.dst undef) ds w)
def lift(n:Nat)(Q:EQ):Exit->Act->World->Prop
 | .panic _,_,_=>False
 | .outgrown,_,_=>False
 | .goto _,_,_=>False
 | e,a,w=>a.tmps.size=n/\Q e (zQF a) a.defers w
def zZj(ops:List Oper)(t:Nat):Bool:=ops.any λo=>match o.dst with
 | some d=>Nat.beq d t
 | none=>false
def zXh(ops:List Oper):Bool:=ops.all λo=>match o.op with
 | .defer _=>false
 | _=>true
structure zXI(g:Nat->Bool)(nd:Bool)(a a':Act):Prop where
 size:a'.tmps.size=a.tmps.size
 slots:∀t,g t=false->zQF a' t=zQF a t
 defers:nd=true->a'.defers=a.defers
theorem zXI.refl(g:Nat->Bool)(nd:Bool)(a:Act):zXI g nd a a:=⟨rfl,λ_ _=>rfl,λ_=>rfl⟩
theorem zXI.trans{g:Nat->Bool}{nd:Bool}{a b c:Act}(h:zXI g nd a b)(h':zXI g nd b c):zXI g nd a c:=
 ⟨h'.size.trans h.size,λt ht=>(h'.slots t ht).trans (h.slots t ht),λhd=>(h'.defers hd).trans (h.defers hd)⟩
theorem zXI.weaken{g g':Nat->Bool}{nd nd':Bool}{a b:Act}(h:zXI g nd a b)(hg:∀t,g' t=false->g t=false)(hn:nd'=true->nd=true):zXI g' nd' a b:=
 ⟨h.size,λt ht=>h.slots t (hg t ht),λhd=>h.defers (hn hd)⟩
theorem Act.put_size(a:Act)(d:Option Nat)(v:Value):(a.put d v).tmps.size=a.tmps.size:=by cases d <;> simp[Act.put]
theorem Act.put_def(a:Act)(d:Option Nat)(v:Value):(a.put d v).defers=a.defers:=by cases d <;> rfl
theorem zXI.put(a:Act)(o:Oper)(v:Value)(nd:Bool):zXI (zZj [o]) nd a (a.put o.dst v):=by
 refine⟨Act.put_size _ _ _,λt ht=>?_,λ_=>Act.put_def _ _ _⟩
 cases hd:o.dst with
 | none=>rfl
 | some d=>
  have hne:d ≠ t:=by
   intro e;subst e
   simp[zZj,hd]at ht
  simp[zQF,Act.put,Array.getElem?_setIfInBounds_ne hne]
theorem yQD{n:Nat}{ops:Array Oper}(hf:zVw n ops=true){K:EP}{Q:Exit->Act->World->Prop}:∀(l:List Oper),(∀o,o ∈ l->o ∈ ops.toList)->∀(a:Act) (w:World),a.tmps.size=n->
  opsE P ops K l (zQF a) a.defers w->(∀a' w',zXI (zZj l) (zXh l) a a'->K (zQF a') a'.defers w'->Q .normal a' w')->wpList P ops Q l a w
 | [],_,a,w,_,h,hQ=>hQ a w (zXI.refl _ _ _) h
 | o :: rest,hm,a,w,hs,h,hQ=>by
  have hput:∀d,o.dst=some d->d<a.tmps.size:=λd hd=>by rw[hs];exact zKw hf (hm o (by simp)) hd
  have hg1:∀t,zZj (o :: rest) t=false->zZj [o] t=false:=λt ht=>by simp only[zZj,List.any_cons,Bool.or_eq_false_iff,List.any_nil]at ht ⊢;exact⟨ht.1,trivial⟩
  have hg2:∀t,zZj (o :: rest) t=false->zZj rest t=false:=λt ht=>by simp only[zZj,List.any_cons,Bool.or_eq_false_iff]at ht ⊢;exact ht.2
  have hn1:zXh (o :: rest)=true->zXh [o]=true:=λht=>by simp only[zXh,List.all_cons,Bool.and_eq_true,List.all_nil]at ht ⊢;exact⟨ht.1,trivial⟩
  have yM:zXh (o :: rest)=true->zXh rest=true:=λht=>by simp only[zXh,List.all_cons,Bool.and_eq_true]at ht ⊢;exact ht.2
  have ih:∀(b:Act) (w:World),zXI (zZj [o]) (zXh [o]) a b->opsE P ops K rest (zQF b) b.defers w->wpList P ops Q rest b w:=λb w hab hb=>
   yQD hf rest (λx hx=>hm x (by simp[hx])) b w (hab.size.trans hs) hb λa' w' hag hK=>hQ a' w' ((hab.weaken hg1 hn1).trans (hag.weaken hg2 yM)) hK
  unfold wpList
  rcases zK2 hf hs h with⟨hw,hY⟩|⟨hw,hN⟩
  ·rw[if_pos hw]
   refine .inl (yZs hY _ _ λv ds w' hK hds=>ih _ w' ?_ ?_)
   ·have h1:=zXI.put { a with defers:=ds } o v (zXh [o])
    refine⟨h1.size,h1.slots,λhd=>?_⟩
    rw[Act.put_def]
    exact hds λc hc=>by simp[zXh,hc]at hd
   ·rw[zK1 (a:={ a with defers:=ds }) hput,Act.put_def];exact hK
  ·rw[if_neg (by rw[hw];simp)]
   refine ih _ w (zXI.put a o _ _) ?_
   rw[zK1 hput,Act.put_def];exact hN
end Go.Sh
