import Derived.Test.YtjbfehippchniaaGreatDoorShSeven
import Derived.RangeFuncKeeps
import Derived.RangeFuncCalls
import Derived.OrdersIn
import Derived.TacticsIn
/- Shallow code inside a round of a range over a function. For every program. -/
set_option linter.unusedVariables false
namespace Go.Sh
variable {P : Program} {l n : Nat}
theorem op_in {o:Oper} {a:Act} {w:World} {K:Act → World → Prop} {Q:Exit → Act → World → Prop} (hd:∀c,o.op ≠ .defer c) (hQ:¬LetsOut Q) (h:o.wp P a w K Q∨(o.asks P a w ∧ LetsOut Q)) :
    o.wpIn (Fence.wide.inRound l) n P a w K Q:=by
  rcases h with h|h
  · refine⟨λ_ _=>trivial,?_⟩
    show o.uponIn _ n P a K Q ((o.semAt (some l) a.eval).run P w)
    rw[Oper.semAt_some l _ _ hd]
    unfold Oper.wp at h
    generalize (execOp a.eval o).run P w=r at h ⊢
    cases r with
    | ok v w'=>
      cases v with
      | value v=>exact h
      | skip=>exact h
      | defer d=>exact h
      | enter f args=>exact⟨λh=>(by cases h),CallsIn.inRound l ((callsIn_wide (n:=n - 1)).2 h)⟩
      | row r args=>
        refine⟨λh=>(by cases h),λc cs _=>?_⟩
        obtain⟨v,w'',r,s⟩:=h c cs
        exact⟨v,w'',r,stepsIn_wide.2 s⟩
      | _=>exact h.elim
    | halt hh w'=>
      cases hh with
      | panic v=>exact h
      | _=>exact h.elim
  · exact absurd h.2 hQ
theorem noDef_at{ops:List Oper}(h:noDefOps ops=true){o:Oper}(ho:o ∈ ops):∀c,o.op ≠ .defer c:=λc e=>by
  have:=List.all_eq_true.1 h o ho
  rw[e]at this;cases this
theorem list_in{ops:Array Oper}{Q:Exit → Act → World → Prop}(hQ:¬LetsOut Q):∀(os:List Oper) (a:Act) (w:World),noDefOps os=true → wpList P ops Q os a w → wpListIn (Fence.wide.inRound l) n P ops Q os a w
  | [],a,w,_,h=>h
  | o :: os,a,w,hn,h=>by
    have hn2:noDefOps os=true:=by
      have:=List.all_eq_true.1 hn
      exact List.all_eq_true.2 λx hx=>this x (List.mem_cons_of_mem _ hx)
    unfold wpList at h
    unfold wpListIn
    split
    · rename_i hw
      rw[if_pos hw]at h
      refine Oper.wpIn_mono (λa w h=>list_in hQ os a w hn2 h) (op_in (noDef_at hn (List.mem_cons_self ..)) hQ h)
    · rename_i hw
      rw[if_neg hw]at h
      exact⟨λ_ _=>trivial,list_in hQ os _ w hn2 h⟩
theorem any_in{ops:Array Oper}{Q:Exit → Act → World → Prop}{md:Region.Mode}(hQ:¬LetsOut Q)(hn:noDefOps ops.toList=true):∀(fuel:Nat) (listed:Array Bool) (a:Act) (w:World),wpAny P md ops Q fuel listed a w → wpAnyIn (Fence.wide.inRound l) n P md ops Q fuel listed a w
  | 0,listed,a,w,h=>h
  | fuel+1,listed,a,w,h=>by
    refine⟨h.1,λi hi=>?_⟩
    have h2:=h.2 i hi
    unfold wpOp at h2
    unfold wpOpIn
    cases ho:ops[i]? with
    | none=>rw[ho]at h2;exact any_in hQ hn fuel _ _ _ h2
    | some o=>
      rw[ho]at h2
      dsimp only at h2 ⊢
      split
      · rename_i hw
        rw[if_pos hw]at h2
        have hm:o ∈ ops.toList:=by
          obtain⟨h3,h4⟩:=Array.getElem?_eq_some_iff.1 ho
          rw[←h4];exact Array.getElem_mem_toList h3
        exact Oper.wpIn_mono (λa w h=>any_in hQ hn fuel _ a w h) (op_in (noDef_at hn hm) hQ h2)
      · rename_i hw
        rw[if_neg hw]at h2
        exact⟨λ_ _=>trivial,any_in hQ hn fuel _ _ _ h2⟩
/-- Straight code. -/
def rndC:Code → Bool
  | .skip=>true
  | .region _ ops _=>noDefOps ops.toList
  | .seq x y=>rndC x && rndC y
  | .cond _ x y=>rndC x && rndC y
  | .block _ c=>rndC c
  | .exit _=>true
  | .ret=>true
  | _=>false
theorem drawn_in {m id:Nat} {ops:Array Oper} (hf:fitsOps m ops=true) (hn:noDefOps ops.toList=true) {K:EP} {Q:Exit → Act → World → Prop} (hQ:∀c a w,¬Q (.panic c) a w) (hL:¬LetsOut Q) {a:Act} {w:World} (hs:a.tmps.size=m)
    (hK:∀a' w',Agree (asgOps ops.toList) (noDefOps ops.toList) a a' → K (envOf a') a'.defers w' → Q .normal a' w') (h:drawnE P ops K (envOf a) a.defers w):(Code.region id ops true).wpIn (Fence.wide.inRound l) n P Q a w:=by
  unfold drawnE at h
  split at h
  case h_2=>exact h.elim
  rename_i hb
  simp only[Bool.and_eq_true]at hb
  have hcl:Closed ops (Array.replicate ops.size false):=λj oj _ hl=>by
    exfalso
    rcases Nat.lt_or_ge j ops.size with h|h
    · simp[h]at hl
    · simp[h]at hl
  have key:∀Sm,sIs Sm w.drew w.drew → drawE P ops K ops.size (Array.replicate ops.size false) true Sm (envOf a) a.defers w.drew → (Code.region id ops true).wpIn (Fence.wide.inRound l) n P Q a w:=λSm hS h=>
    wpIn_region_any hb.1 (any_in hL hn _ _ _ _ (wpAny_of_T _ _ _ _ (drawE_sound hf hb.2 hQ a hK _ _ true Sm a w.drew hs hcl (λ_=>rfl) (λ_=>hS) (Agree.refl _ _ _) h)))
  split at h
  · exact key none rfl h
  · obtain⟨S,hS,h⟩:=h
    exact key (some S) hS h
theorem in_ptE{m:Nat}:∀{c:Code} {Q:EQ} {a:Act} {w:World},fitsC m c=true → rndC c=true → a.tmps.size=m → ptE P c Q (envOf a) a.defers w →
    c.wpIn (Fence.wide.inRound l) n P (lift m Q) a w
  | .skip,Q,a,w,_,_,hs,h=>wpIn_skip ⟨hs,h⟩
  | .region id ops false,Q,a,w,hf,hn,hs,h=>
    wpIn_region_list (list_in (λ⟨_,_,h⟩=>h) _ _ _ hn (opsE_sound hf ops.toList (λ_ h=>h) a w hs h λa' w' hA hK=>⟨hA.size.trans hs,hK⟩))
  | .region id ops true,Q,a,w,hf,hn,hs,h=>
    drawn_in hf hn (λc a w h=>h) (λ⟨_,_,h⟩=>h) hs (λa' w' hA hK=>⟨hA.size.trans hs,hK⟩) h
  | .seq x y,Q,a,w,hf,hr,hs,h=>by
    simp only[fitsC,Bool.and_eq_true]at hf
    simp only[rndC,Bool.and_eq_true]at hr
    refine wpIn_seq (wpIn_mono (in_ptE hf.1 hr.1 hs h) λe a' w' h1=>?_)
    cases e with
    | normal=>exact in_ptE hf.2 hr.2 h1.1 h1.2
    | _=>exact h1
  | .cond c x y,Q,a,w,hf,hr,hs,h=>by
    simp only[fitsC,Bool.and_eq_true]at hf
    simp only[rndC,Bool.and_eq_true]at hr
    have h:Br' (ev (envOf a) c) (ptE P x Q (envOf a) a.defers w) (ptE P y Q (envOf a) a.defers w):=h
    unfold Br' boolE at h
    split at h
    case h_2=>exact h.elim
    rename_i b hb
    rw[ev_envOf]at hb
    cases b with
    | true=>exact wpIn_cond_true hb (in_ptE hf.1 hr.1 hs h)
    | false=>exact wpIn_cond_false hb (in_ptE hf.2 hr.2 hs h)
  | .block id c,Q,a,w,hf,hr,hs,h=>by
    refine wpIn_block (wpIn_mono (in_ptE (c:=c) hf hr hs h) λe a' w' h1=>?_)
    cases e with
    | exit j=>
      simp only[lift,blockQ]at h1
      simp only[Exit.inBlock]
      by_cases hj:j=id
      · subst hj
        rw[if_pos rfl]
        have:Nat.beq j j=true:=Nat.beq_refl j
        rw[this]at h1
        exact h1
      · rw[if_neg hj]
        have:Nat.beq j id=false:=by cases hb:Nat.beq j id;rfl;exact absurd (Nat.eq_of_beq_eq_true hb) hj
        rw[this]at h1
        exact h1
    | _=>exact h1
  | .exit id,Q,a,w,_,_,hs,h=>wpIn_exit ⟨hs,h⟩
  | .ret,Q,a,w,_,_,hs,h=>wpIn_ret ⟨hs,h⟩
/-- The body of a round, out of its shallow text. -/
theorem body_in {m:Nat} {c:Code} {Q:Exit → Act → World → Prop} {a:Act} {w:World} (hf:fitsC m c=true) (hr:rndC c=true) (hs:a.tmps.size=m) (h:ptE P c (λe _ _ w'=>∀a',Q e a' w') (envOf a) a.defers w):c.wpIn (Fence.wide.inRound l) n P Q a w:=
  wpIn_mono (in_ptE hf hr hs h) λe a' w' h1=>by cases e <;> first|exact h1.elim|exact h1.2 a'
end Go.Sh
