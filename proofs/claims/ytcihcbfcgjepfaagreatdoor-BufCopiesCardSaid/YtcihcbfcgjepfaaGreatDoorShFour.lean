import Derived.Test.YtcihcbfcgjepfaaGreatDoorShThree
/- Regions and code of the shallow semantics, and their soundness: 'ptE' gives a triple 'Tr' of the model's code; the rules by which triples are joined; a function's call. For every program. -/
namespace Go.Sh
variable {P : Program}
abbrev EP:=Env->List Deferred->World->Prop
abbrev EQ:=Exit->EP
theorem zKq{ρ:Env}{t:Nat}{v:Value}(h:ρ t=v):zKn ρ t v=ρ:=by
 funext u
 unfold zKn
 cases hu:Nat.beq u t with
 | false=>rfl
 | true=>rw[Nat.eq_of_beq_eq_true hu];exact h.symm
def zYW(ops:Array Oper)(o:Oper)(ρ:Env)(Y N:Env->Prop):Prop:=
 match o.guard with
 | none=>Y ρ
 | some (j,want)=>match (ops[j]?).bind (·.dst)with
  | none=>False
  | some t=>match ρ t with
   | .bool b=>Br b (match want with|true=>Y (zKn ρ t (.bool true))|false=>N (zKn ρ t (.bool true))) (match want with|true=>N (zKn ρ t (.bool false))|false=>Y (zKn ρ t (.bool false)))
   | .tuple _=>N ρ
   | _=>False
def zK7(n:Nat)(ops:Array Oper):Bool:=ops.toList.all λo=>match o.dst with
 | some d=>Nat.blt d n
 | none=>true
theorem zJk{n:Nat}{ops:Array Oper}(h:zK7 n ops=true){o:Oper}(ho:o ∈ ops.toList){d:Nat}(hd:o.dst=some d):d<n:=by
 have:=List.all_eq_true.1 h o ho
 simp only[hd]at this
 simpa[Nat.blt_eq] using this
theorem zJj {n:Nat} {ops:Array Oper} (hf:zK7 n ops=true) {o:Oper} {a:Act} (hs:a.tmps.size=n) {Y N:Env->Prop} (h:zYW ops o (zQH a) Y N) :
  (Region.wanted o (yielded ops a.tmps)=true/\Y (zQH a))∨(Region.wanted o (yielded ops a.tmps)=false/\N (zQH a)):=by
 unfold zYW at h
 unfold Region.wanted
 split at h
 ·rename_i hg;rw[hg];exact .inl ⟨rfl,h⟩
 ·rename_i j want hg
  rw[hg]
  split at h
  ·exact h.elim
  ·rename_i t ht
   obtain⟨oj,hoj,hdst⟩:=Option.bind_eq_some_iff.1 ht
   have hlt:t<a.tmps.size:=by rw[hs];exact zJk hf (List.mem_of_getElem? (l:=ops.toList) (i:=j) (by simpa using hoj)) hdst
   have hy:yielded ops a.tmps j=match zQH a t with|.bool b=>some b|_=>none:=by
    unfold yielded
    rw[ht]
    simp only[Option.bind_some,zQH]
    rw[Array.getElem?_eq_getElem hlt]
    have:a.tmps.getD t undef=a.tmps[t]:=by simp[hlt]
    rw[this]
    cases a.tmps[t] <;> rfl
   split at h
   ·rename_i b hb
    rw[hb]at hy
    simp only at hy
    cases b <;> cases want <;> simp only[Br]at h <;> rw[zKq hb]at h <;> simp only[hy]
    ·exact .inl ⟨rfl,h⟩
    ·exact .inr ⟨rfl,h⟩
    ·exact .inr ⟨rfl,h⟩
    ·exact .inl ⟨rfl,h⟩
   ·rename_i x hb
    rw[hb]at hy
    simp only at hy
    simp only[hy]
    exact .inr ⟨by cases want <;> rfl,h⟩
   ·exact h.elim
def opsE(P:Program)(ops:Array Oper)(K:EP):List Oper->EP
 | [],ρ,ds,w=>K ρ ds w
 | o :: zQz,ρ,ds,w=>zYW ops o ρ (λρ=>opE P o ρ ds w λv ds w=>opsE P ops K zQz (upd ρ o.dst v) ds w) (λρ=>opsE P ops K zQz (upd ρ o.dst undef) ds w)
def lift(n:Nat)(Q:EQ):Exit->Act->World->Prop
 | .panic _,_,_=>False
 | .outgrown,_,_=>False
 | .goto _,_,_=>False
 | e,a,w=>a.tmps.size=n/\Q e (zQH a) a.defers w
def zXK(ops:List Oper)(t:Nat):Bool:=ops.any λo=>match o.dst with
 | some d=>Nat.beq d t
 | none=>false
def zXc(ops:List Oper):Bool:=ops.all λo=>match o.op with
 | .defer _=>false
 | _=>true
structure zX7(g:Nat->Bool)(nd:Bool)(a a':Act):Prop where
 size:a'.tmps.size=a.tmps.size
 slots:∀t,g t=false->zQH a' t=zQH a t
 defers:nd=true->a'.defers=a.defers
theorem zX7.refl(g:Nat->Bool)(nd:Bool)(a:Act):zX7 g nd a a:=⟨rfl,λ_ _=>rfl,λ_=>rfl⟩
theorem zX7.trans{g:Nat->Bool}{nd:Bool}{a b c:Act}(h:zX7 g nd a b)(h':zX7 g nd b c):zX7 g nd a c:=
 ⟨h'.size.trans h.size,λt ht=>(h'.slots t ht).trans (h.slots t ht),λhd=>(h'.defers hd).trans (h.defers hd)⟩
theorem zX7.weaken{g g':Nat->Bool}{nd nd':Bool}{a b:Act}(h:zX7 g nd a b)(hg:∀t,g' t=false->g t=false)(hn:nd'=true->nd=true):zX7 g' nd' a b:=
 ⟨h.size,λt ht=>h.slots t (hg t ht),λhd=>h.defers (hn hd)⟩
theorem Act.put_size(a:Act)(d:Option Nat)(v:Value):(a.put d v).tmps.size=a.tmps.size:=by cases d <;> simp[Act.put]
theorem Act.put_def(a:Act)(d:Option Nat)(v:Value):(a.put d v).defers=a.defers:=by cases d <;> rfl
theorem zX7.put(a:Act)(o:Oper)(v:Value)(nd:Bool):zX7 (zXK [o]) nd a (a.put o.dst v):=by
 refine⟨Act.put_size _ _ _,λt ht=>?_,λ_=>Act.put_def _ _ _⟩
 cases hd:o.dst with
 | none=>rfl
 | some d=>
  have hne:d ≠ t:=by
   intro e;subst e
   simp[zXK,hd]at ht
  simp[zQH,Act.put,Array.getElem?_setIfInBounds_ne hne]
theorem zVG{n:Nat}{ops:Array Oper}(hf:zK7 n ops=true){K:EP}{Q:Exit->Act->World->Prop}:∀(l:List Oper),(∀o,o ∈ l->o ∈ ops.toList)->∀(a:Act) (w:World),a.tmps.size=n->
  opsE P ops K l (zQH a) a.defers w->(∀a' w',zX7 (zXK l) (zXc l) a a'->K (zQH a') a'.defers w'->Q .normal a' w')->wpList P ops Q l a w
 | [],_,a,w,_,h,hQ=>hQ a w (zX7.refl _ _ _) h
 | o :: zQz,hm,a,w,hs,h,hQ=>by
  have hput:∀d,o.dst=some d->d<a.tmps.size:=λd hd=>by rw[hs];exact zJk hf (hm o (by simp)) hd
  have hg1:∀t,zXK (o :: zQz) t=false->zXK [o] t=false:=λt ht=>by simp only[zXK,List.any_cons,Bool.or_eq_false_iff,List.any_nil]at ht ⊢;exact⟨ht.1,trivial⟩
  have hg2:∀t,zXK (o :: zQz) t=false->zXK zQz t=false:=λt ht=>by simp only[zXK,List.any_cons,Bool.or_eq_false_iff]at ht ⊢;exact ht.2
  have hn1:zXc (o :: zQz)=true->zXc [o]=true:=λht=>by simp only[zXc,List.all_cons,Bool.and_eq_true,List.all_nil]at ht ⊢;exact⟨ht.1,trivial⟩
  have fh:zXc (o :: zQz)=true->zXc zQz=true:=λht=>by simp only[zXc,List.all_cons,Bool.and_eq_true]at ht ⊢;exact ht.2
  have ih:∀(b:Act) (w:World),zX7 (zXK [o]) (zXc [o]) a b->opsE P ops K zQz (zQH b) b.defers w->wpList P ops Q zQz b w:=λb w hab hb=>
   zVG hf zQz (λx hx=>hm x (by simp[hx])) b w (hab.size.trans hs) hb λa' w' hag hK=>hQ a' w' ((hab.weaken hg1 hn1).trans (hag.weaken hg2 fh)) hK
  unfold wpList
  rcases zJj hf hs h with⟨hw,hY⟩|⟨hw,hN⟩
  ·rw[if_pos hw]
   refine .inl (zYE hY _ _ λv ds w' hK hds=>ih _ w' ?_ ?_)
   ·have h1:=zX7.put { a with defers:=ds } o v (zXc [o])
    refine⟨h1.size,h1.slots,λhd=>?_⟩
    rw[Act.put_def]
    exact hds λc hc=>by simp[zXc,hc]at hd
   ·rw[zJz (a:={ a with defers:=ds }) hput,Act.put_def];exact hK
  ·rw[if_neg (by rw[hw];simp)]
   refine ih _ w (zX7.put a o _ _) ?_
   rw[zJz hput,Act.put_def];exact hN
end Go.Sh
