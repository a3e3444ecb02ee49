import Derived.Test.YtjbfehippchniaaGreatDoorShThirty
import Derived.Test.YtjbfehippchniaaGreatDoorShTwentyEight
import Derived.RangeFuncLeaves
/- A call of a function whose head is shallow text and whose tail is walked by itself. For every program. -/
set_option linter.unusedVariables false
namespace Go.Sh
variable {P : Program} {n k : Nat}
theorem tr_in {c:Code} {Q:EQ} {X:Exit → Act → World → Prop} {a:Act} {w:World} (hs:a.tmps.size=n) (h:Tr P n c Q (envOf a) a.defers w)
    (hX:∀e a' w',lift n Q e a' w' → (noDefC c=true → a'.defers=a.defers) → X e a' w'):c.wpIn Fence.wide k P X a w:=
  wpIn_wide.2 (wp_mono (h a hs rfl rfl) λe a' w' ⟨h1,h2⟩=>hX e a' w' h1 h2.defers)
theorem ret_in {fn:Func} {R:Ending → World → Prop} {a:Act} {w:World} (hd:a.defers=[]) (h:endQ P fn.results.toList R .ret (envOf a) a.defers w):bodyPostM Fence.wide k P fn R .ret a w:=by
  obtain⟨tm,df⟩:=a
  subst hd
  obtain⟨v,h1,h2⟩:=results_sound (a:=⟨tm,[]⟩) (K:=λv=>R (.returned v) w) h
  exact⟨v,h1,h2⟩
theorem head_calls{f:FuncId}{fn:Func}{args:Array Value}{R:Ending → World → Prop}{w:World}{sl l:List Slot}{T:Fn sl DW}{F:Fn l DW}{r0 r1 b0 tail:Code}
    (hf:P.funcs[f]?=some fn) (hb:fn.body=some (.seq r0 (.seq (.seq r1 b0) tail))) (hn:args.size ≤ fn.ntmps) (hnd:(noDefC r0 && (noDefC r1 && noDefC b0))=true) (hfit:fitsL fn.ntmps [r0,r1,b0]=true)
    (hp:POk P fn.ntmps [r0,r1,b0] (thenQ (Kof sl T) (endQ P fn.results.toList R)) l F) (hX:Kof l F (argEnv args.toList) [] w)
    (ht:∀a w',a.tmps.size=fn.ntmps → a.defers=[] → Kof sl T (envOf a) [] w' → tail.wpIn Fence.wide k P (bodyPostM Fence.wide k P fn R) a w'):CallsIn Fence.wide k P f args w R:=by
  refine callsIn_of_wp_marks hf hb trivial ?_ rfl
  obtain⟨hs,he⟩:=init_env hn
  simp only[Bool.and_eq_true]at hnd
  have h:=hp hfit _ _ _ hX
  refine wpIn_seq (tr_in hs (Q:=thenQ (TrL P fn.ntmps [r1,b0] (thenQ (Kof sl T) (endQ P fn.results.toList R))) (thenQ (Kof sl T) (endQ P fn.results.toList R))) (by rw[he];exact h) λe a w1 h1 hd=>?_)
  have hd:=hd hnd.1
  cases e with
  | normal=>
    refine wpIn_seq (wpIn_seq (tr_in h1.1 (Q:=thenQ (TrL P fn.ntmps [b0] (thenQ (Kof sl T) (endQ P fn.results.toList R))) (thenQ (Kof sl T) (endQ P fn.results.toList R))) h1.2 λe a2 w2 h2 hd2=>?_))
    have hd2:=hd2 hnd.2.1
    cases e with
    | normal=>
      refine tr_in h2.1 (Q:=thenQ (TrL P fn.ntmps [] (thenQ (Kof sl T) (endQ P fn.results.toList R))) (thenQ (Kof sl T) (endQ P fn.results.toList R))) h2.2 λe a3 w3 h3 hd3=>?_
      have hd3:=hd3 hnd.2.2
      cases e with
      | normal=>
        refine ht a3 w3 h3.1 (by rw[hd3,hd2,hd]) ?_
        have:=h3.2
        rw[hd3,hd2,hd]at this
        exact this
      | ret=>exact ret_in (by rw[hd3,hd2,hd]) h3.2
      | exit id=>exact h3.2.elim
      | _=>exact h3.elim
    | ret=>exact ret_in (by rw[hd2,hd]) h2.2
    | exit id=>exact h2.2.elim
    | _=>exact h2.elim
  | ret=>exact ret_in hd h1.2
  | exit id=>exact h1.2.elim
  | _=>exact h1.elim
/-- One piece of code, by its text with slots. -/
theorem rg_in {c:Code} {l:List Slot} {F:Fn l DW} {K:EP} {X:Exit → Act → World → Prop} {a:Act} {w:World} (K':K=K) (hs:a.tmps.size=n) (hf:(fitsC n c && noDefC c)=true) (hX:Kof l F (envOf a) a.defers w)
    (hn:∀a' w',a'.tmps.size=n → (∀t,asgC c t=false → envOf a' t=envOf a t) → a'.defers=a.defers → K (envOf a') a'.defers w' → X .normal a' w')
    (e:∀ρ,F=cur l (ptL P [c] (thenQ K λ_ _ _ _=>False)) ρ:=by intro _;kernel_rfl):c.wpIn Fence.wide k P X a w:=by
  simp only[Bool.and_eq_true]at hf
  have h:=(lf e:POk P n [c] (thenQ K λ_ _ _ _=>False) l F) (by simp[fitsL,hf.1]) _ _ _ hX
  have h:Tr P n c _ (envOf a) a.defers w:=h
  refine wpIn_wide.2 (wp_mono (h a hs rfl rfl) λe a' w' ⟨h1,h2⟩=>?_)
  cases e with
  | normal=>exact hn a' w' h1.1 h2.slots (h2.defers hf.2) h1.2
  | ret=>exact h1.2.elim
  | exit id=>exact h1.2.elim
  | _=>exact h1.elim
/-- The same within a round. -/
theorem rd_in {r:Nat} {c:Code} {l:List Slot} {F:Fn l DW} {Q:EQ} {X:Exit → Act → World → Prop} {a:Act} {w:World} (hs:a.tmps.size=n) (hf:(fitsC n c && rndC c)=true) (hX:Kof l F (envOf a) a.defers w)
    (hn:∀e a' w',lift n Q e a' w' → X e a' w') (e:∀ρ,F=cur l (ptE P c Q) ρ:=by intro _;kernel_rfl):c.wpIn (Fence.wide.inRound r) k P X a w:=by
  simp only[Bool.and_eq_true]at hf
  exact wpIn_mono (in_ptE hf.1 hf.2 hs (Kof_eq e hX)) hn
theorem kof_t {t:Nat} {ty:Ty} {l:List Slot} {F:Fn ((t,.one ty) :: l) DW} {ρ:Env} {ds:Ds} {w:World} (x:ty.T) (h:ρ t=ty.val x) (hk:Kof l (F x) ρ ds w):Kof ((t,.one ty) :: l) F ρ ds w:=by
  show Ty.take ty (ρ t) λx=>Kof l (F x) ρ ds w
  rw[h]
  exact Ty.take_val (K:=λx=>Kof l (F x) ρ ds w) hk
theorem kof_nil{F:DW}{ρ:Env}{ds:Ds}{w:World}(h:F ds w):Kof [] F ρ ds w:=h
theorem eval_env{a:Act}{t:Nat}{v:Value}(h:envOf a t=v):a.eval (.tmp t)=v:=by rw[←ev_envOf];exact h
end Go.Sh
