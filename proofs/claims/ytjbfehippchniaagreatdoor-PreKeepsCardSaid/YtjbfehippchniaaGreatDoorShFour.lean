import Derived.Test.YtjbfehippchniaaGreatDoorShThree
/- Regions and code of the shallow semantics, and their soundness: 'ptE' gives a triple 'Tr' of the model's code; the rules by which triples are joined; a function's call. For every program. -/
namespace Go.Sh
variable {P : Program}
abbrev EP:=Env → List Deferred → World → Prop
abbrev EQ:=Exit → EP
theorem upd1_same{ρ:Env}{t:Nat}{v:Value}(h:ρ t=v):upd1 ρ t v=ρ:=by
  funext u
  unfold upd1
  cases hu:Nat.beq u t with
  | false=>rfl
  | true=>rw[Nat.eq_of_beq_eq_true hu];exact h.symm
/-- A guarded operation is carried out or passed over; the guard's value is known from there on. -/
def guardE(ops:Array Oper)(o:Oper)(ρ:Env)(Y N:Env → Prop):Prop:=
  match o.guard with
  | none=>Y ρ
  | some (j,want)=>match (ops[j]?).bind (·.dst)with
    | none=>False
    | some t=>match ρ t with
      | .bool b=>Br b (match want with|true=>Y (upd1 ρ t (.bool true))|false=>N (upd1 ρ t (.bool true))) (match want with|true=>N (upd1 ρ t (.bool false))|false=>Y (upd1 ρ t (.bool false)))
      | .tuple _=>N ρ
      | _=>False
def fitsOps(n:Nat)(ops:Array Oper):Bool:=ops.toList.all λo=>match o.dst with
  | some d=>Nat.blt d n
  | none=>true
theorem fitsOps_spec{n:Nat}{ops:Array Oper}(h:fitsOps n ops=true){o:Oper}(ho:o ∈ ops.toList){d:Nat}(hd:o.dst=some d):d<n:=by
  have:=List.all_eq_true.1 h o ho
  simp only[hd]at this
  simpa[Nat.blt_eq] using this
theorem guardE_sound {n:Nat} {ops:Array Oper} (hf:fitsOps n ops=true) {o:Oper} {a:Act} (hs:a.tmps.size=n) {Y N:Env → Prop} (h:guardE ops o (envOf a) Y N) :
    (Region.wanted o (yielded ops a.tmps)=true ∧ Y (envOf a))∨(Region.wanted o (yielded ops a.tmps)=false ∧ N (envOf a)):=by
  unfold guardE at h
  unfold Region.wanted
  split at h
  · rename_i hg;rw[hg];exact .inl ⟨rfl,h⟩
  · rename_i j want hg
    rw[hg]
    split at h
    · exact h.elim
    · rename_i t ht
      obtain⟨oj,hoj,hdst⟩:=Option.bind_eq_some_iff.1 ht
      have hlt:t<a.tmps.size:=by rw[hs];exact fitsOps_spec hf (List.mem_of_getElem? (l:=ops.toList) (i:=j) (by simpa using hoj)) hdst
      have hy:yielded ops a.tmps j=match envOf a t with|.bool b=>some b|_=>none:=by
        unfold yielded
        rw[ht]
        simp only[Option.bind_some,envOf]
        rw[Array.getElem?_eq_getElem hlt]
        have:a.tmps.getD t undef=a.tmps[t]:=by simp[hlt]
        rw[this]
        cases a.tmps[t] <;> rfl
      split at h
      · rename_i b hb
        rw[hb]at hy
        simp only at hy
        cases b <;> cases want <;> simp only[Br]at h <;> rw[upd1_same hb]at h <;> simp only[hy]
        · exact .inl ⟨rfl,h⟩
        · exact .inr ⟨rfl,h⟩
        · exact .inr ⟨rfl,h⟩
        · exact .inl ⟨rfl,h⟩
      · rename_i x hb
        rw[hb]at hy
        simp only at hy
        simp only[hy]
        exact .inr ⟨by cases want <;> rfl,h⟩
      · exact h.elim
def opsE(P:Program)(ops:Array Oper)(K:EP):List Oper → EP
  | [],ρ,ds,w=>K ρ ds w
  | o :: rest,ρ,ds,w=>guardE ops o ρ (λρ=>opE P o ρ ds w λv ds w=>opsE P ops K rest (upd ρ o.dst v) ds w) (λρ=>opsE P ops K rest (upd ρ o.dst undef) ds w)
/-- What a walk of the model's is asked to end in. -/
def lift(n:Nat)(Q:EQ):Exit → Act → World → Prop
  | .panic _,_,_=>False
  | .outgrown,_,_=>False
  | .goto _,_,_=>False
  | e,a,w=>a.tmps.size=n ∧ Q e (envOf a) a.defers w
/-- Which slots operations write, and whether they defer. -/
def asgOps(ops:List Oper)(t:Nat):Bool:=ops.any λo=>match o.dst with
  | some d=>Nat.beq d t
  | none=>false
def noDefOps(ops:List Oper):Bool:=ops.all λo=>match o.op with
  | .defer _=>false
  | _=>true
/-- Slots outside 'g' and (where nothing is deferred) the deferred calls are as they were. -/
structure Agree(g:Nat → Bool)(nd:Bool)(a a':Act):Prop where
  size:a'.tmps.size=a.tmps.size
  slots:∀t,g t=false → envOf a' t=envOf a t
  defers:nd=true → a'.defers=a.defers
theorem Agree.refl(g:Nat → Bool)(nd:Bool)(a:Act):Agree g nd a a:=⟨rfl,λ_ _=>rfl,λ_=>rfl⟩
theorem Agree.trans{g:Nat → Bool}{nd:Bool}{a b c:Act}(h:Agree g nd a b)(h':Agree g nd b c):Agree g nd a c:=
  ⟨h'.size.trans h.size,λt ht=>(h'.slots t ht).trans (h.slots t ht),λhd=>(h'.defers hd).trans (h.defers hd)⟩
theorem Agree.weaken{g g':Nat → Bool}{nd nd':Bool}{a b:Act}(h:Agree g nd a b)(hg:∀t,g' t=false → g t=false)(hn:nd'=true → nd=true):Agree g' nd' a b:=
  ⟨h.size,λt ht=>h.slots t (hg t ht),λhd=>h.defers (hn hd)⟩
theorem Act.put_size(a:Act)(d:Option Nat)(v:Value):(a.put d v).tmps.size=a.tmps.size:=by cases d <;> simp[Act.put]
theorem Act.put_def(a:Act)(d:Option Nat)(v:Value):(a.put d v).defers=a.defers:=by cases d <;> rfl
theorem Agree.put(a:Act)(o:Oper)(v:Value)(nd:Bool):Agree (asgOps [o]) nd a (a.put o.dst v):=by
  refine⟨Act.put_size _ _ _,λt ht=>?_,λ_=>Act.put_def _ _ _⟩
  cases hd:o.dst with
  | none=>rfl
  | some d=>
    have hne:d ≠ t:=by
      intro e;subst e
      simp[asgOps,hd]at ht
    simp[envOf,Act.put,Array.getElem?_setIfInBounds_ne hne]
theorem opsE_sound{n:Nat}{ops:Array Oper}(hf:fitsOps n ops=true){K:EP}{Q:Exit → Act → World → Prop}:∀(l:List Oper),(∀o,o ∈ l → o ∈ ops.toList) → ∀(a:Act) (w:World),a.tmps.size=n →
    opsE P ops K l (envOf a) a.defers w → (∀a' w',Agree (asgOps l) (noDefOps l) a a' → K (envOf a') a'.defers w' → Q .normal a' w') → wpList P ops Q l a w
  | [],_,a,w,_,h,hQ=>hQ a w (Agree.refl _ _ _) h
  | o :: rest,hm,a,w,hs,h,hQ=>by
    have hput:∀d,o.dst=some d → d<a.tmps.size:=λd hd=>by rw[hs];exact fitsOps_spec hf (hm o (by simp)) hd
    have hg1:∀t,asgOps (o :: rest) t=false → asgOps [o] t=false:=λt ht=>by simp only[asgOps,List.any_cons,Bool.or_eq_false_iff,List.any_nil]at ht ⊢;exact⟨ht.1,trivial⟩
    have hg2:∀t,asgOps (o :: rest) t=false → asgOps rest t=false:=λt ht=>by simp only[asgOps,List.any_cons,Bool.or_eq_false_iff]at ht ⊢;exact ht.2
    have hn1:noDefOps (o :: rest)=true → noDefOps [o]=true:=λht=>by simp only[noDefOps,List.all_cons,Bool.and_eq_true,List.all_nil]at ht ⊢;exact⟨ht.1,trivial⟩
    have hn2:noDefOps (o :: rest)=true → noDefOps rest=true:=λht=>by simp only[noDefOps,List.all_cons,Bool.and_eq_true]at ht ⊢;exact ht.2
    have ih:∀(b:Act) (w:World),Agree (asgOps [o]) (noDefOps [o]) a b → opsE P ops K rest (envOf b) b.defers w → wpList P ops Q rest b w:=λb w hab hb=>
      opsE_sound hf rest (λx hx=>hm x (by simp[hx])) b w (hab.size.trans hs) hb λa' w' hag hK=>hQ a' w' ((hab.weaken hg1 hn1).trans (hag.weaken hg2 hn2)) hK
    unfold wpList
    rcases guardE_sound hf hs h with⟨hw,hY⟩|⟨hw,hN⟩
    · rw[if_pos hw]
      refine .inl (opE_sound hY _ _ λv ds w' hK hds=>ih _ w' ?_ ?_)
      · have h1:=Agree.put { a with defers:=ds } o v (noDefOps [o])
        refine⟨h1.size,h1.slots,λhd=>?_⟩
        rw[Act.put_def]
        exact hds λc hc=>by simp[noDefOps,hc]at hd
      · rw[envOf_put (a:={ a with defers:=ds }) hput,Act.put_def];exact hK
    · rw[if_neg (by rw[hw];simp)]
      refine ih _ w (Agree.put a o _ _) ?_
      rw[envOf_put hput,Act.put_def];exact hN
end Go.Sh
