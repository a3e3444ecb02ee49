import Derived.Test.YtjbfehippchniaaGreatDoorShTwo
/- The soundness of one operation of the shallow semantics, and of a region in the order of its text. For every program. -/
namespace Go.Sh
variable {P : Program}
theorem map_list{α β:Type}(xs:Array α)(f:α → β):(xs.toList.map f).toArray=xs.map f:=by
  apply Array.ext';simp
theorem opE_sound {o:Oper} {a:Act} {w:World} {K:Value → List Deferred → World → Prop} (h:opE P o (envOf a) a.defers w K) (next:Act → World → Prop) (Q:Exit → Act → World → Prop)
    (hk:∀v ds w',K v ds w' → ((∀c,o.op ≠ .defer c) → ds=a.defers) → next ({ a with defers:=ds }.put o.dst v) w'):o.wp P a w next Q:=by
  unfold Oper.wp
  rw[←ev_envOf]
  have hk0:∀v w',K v a.defers w' → next (a.put o.dst v) w':=λv w' h=>hk v a.defers w' h (λ_=>rfl)
  unfold opE at h
  unfold execOp
  split at h
  case h_1 x hop=>rw[hop];exact hk0 _ _ h
  case h_2 x hop=>rw[hop];exact hk0 _ _ h
  case h_3 c x y hop=>
    rw[hop]
    unfold boolE at h
    split at h
    · rename_i t ht
      simp only[ht,asBool,Sem.run_bind,Sem.run_pure,Result.andThen_ok,Oper.upon]
      cases t <;> exact hk0 _ _ h
    · exact h.elim
  case h_4 elem hop=>
    rw[hop]
    split at h
    case h_2=>exact h.elim
    rename_i z hz
    obtain⟨i,hi,hz2⟩:=Option.bind_eq_some_iff.1 hz
    refine upon_val (s:=Instr.alloc elem true (.tuple #[])) ?_ (hk0 _ _ h)
    simp[Instr.alloc,zeroValue,run_info hi,hz2,newVar,newRow]
  case h_5 elem x hop=>
    rw[hop]
    refine upon_val (s:=Instr.box elem (ev (envOf a) x)) ?_ (hk0 _ _ h)
    simp[Instr.box,newVar,newRow]
  case h_6 t parts hop=>
    rw[hop]
    rw[map_list]at h
    obtain⟨v,w',hr,hK⟩:=rawE_elim h
    exact upon_val hr (hk0 _ _ hK)
  case h_7 t len parts hop=>
    rw[hop]
    rw[map_list]at h
    obtain⟨v,w',hr,hK⟩:=rawE_elim h
    exact upon_val hr (hk0 _ _ hK)
  case h_8 t x hop=>
    rw[hop]
    obtain⟨ad,hx,h⟩:=addrE_elim h
    obtain⟨v,hv,hK⟩:=loadE_sound h
    refine upon_val (s:=Instr.loadAt t (ev (envOf a) x)) ?_ (hk0 _ _ hK)
    simp[Instr.loadAt,hx,Instr.sureAddr,hv]
  case h_9 t x y hop=>
    rw[hop]
    obtain⟨ad,hx,h⟩:=addrE_elim h
    obtain⟨w',hv,hK⟩:=storeE_sound h
    refine upon_unit (s:=Instr.storeAt t (ev (envOf a) x) (ev (envOf a) y)) ?_ (hk0 _ _ hK)
    simp[Instr.storeAt,hx,Instr.sureAddr,hv]
  case h_10 x hop=>
    rw[hop]
    obtain⟨ad,hx,h⟩:=addrE_elim h
    simp only[hx]
    exact hk0 _ _ h
  case h_11 op t x y _ hop=>
    rw[hop]
    obtain⟨v,w',hr,hK⟩:=binE_sound h
    exact upon_val hr (hk0 _ _ hK)
  case h_12 op _ x hop=>
    rw[hop]
    obtain⟨v,w',hr,hK⟩:=rawE_elim h
    exact upon_val hr (hk0 _ _ hK)
  case h_13 src dst x hop=>
    rw[hop]
    split at h
    · rename_i k n hx
      obtain⟨v,w',hr,hK⟩:=rawE_elim h
      rw[←hx]at hr
      exact upon_val hr (hk0 _ _ hK)
    · obtain⟨v,w',hr,hK⟩:=runT_elim h
      exact upon_val hr (hk0 _ _ hK)
  case h_14 fn first cap hop=>
    rw[hop]
    rw[map_list,map_list]at h
    exact upon_val (s:=Instr.makeFunc fn (first.map (ev (envOf a))) (cap.map (ev (envOf a)))) rfl (hk0 _ _ h)
  case h_15 t hop=>
    rw[hop]
    obtain⟨v,w',hr,hK⟩:=rawE_elim h
    exact upon_val (s:=Instr.makeMap t none) hr (hk0 _ _ hK)
  case h_16 t r hop=>
    rw[hop]
    obtain⟨v,w',hr,hK⟩:=runT_elim h
    exact upon_val (s:=Instr.makeMap t (some (ev (envOf a) r))) hr (hk0 _ _ hK)
  case h_17 t l c hop=>
    rw[hop]
    obtain⟨v,w',hr,hK⟩:=runT_elim h
    exact upon_val hr (hk0 _ _ hK)
  case h_18 t x lo hi hop=>
    rw[hop]
    obtain⟨v,hr,hK⟩:=sliceE_sound (w:=w) h
    refine upon_val (s:=Instr.sliceAt t (ev (envOf a) x) (lo.map (ev (envOf a))) (hi.map (ev (envOf a))) none) ?_ (hk0 _ _ hK)
    cases lo <;> cases hi <;> exact hr
  case h_19 t x lo hi m hop=>
    rw[hop]
    obtain⟨v,w',hr,hK⟩:=runE_elim h
    exact upon_val (s:=Instr.sliceAt t (ev (envOf a) x) (lo.map (ev (envOf a))) (hi.map (ev (envOf a))) (some (ev (envOf a) m))) hr (hk0 _ _ hK)
  case h_20 s x f hop=>
    rw[hop]
    obtain⟨ad,hx,h⟩:=addrE_elim h
    obtain⟨v,w',hr,hK⟩:=rawE_elim h
    rw[←hx]at hr
    exact upon_val hr (hk0 _ _ hK)
  case h_21 t x f hop=>
    rw[hop]
    obtain⟨v,w',hr,hK⟩:=rawE_elim h
    exact upon_val hr (hk0 _ _ hK)
  case h_22 t x i hop=>
    rw[hop]
    obtain⟨v,hr,hK⟩:=ixAddrE_sound (w:=w) h
    exact upon_val hr (hk0 _ _ hK)
  case h_23 t x i hop=>
    rw[hop]
    obtain⟨v,w',hr,hK⟩:=ixE_sound h
    exact upon_val hr (hk0 _ _ hK)
  case h_24 t x i ok hop=>
    rw[hop]
    obtain⟨v,w',hr,hK⟩:=runT_elim h
    exact upon_val hr (hk0 _ _ hK)
  case h_25 t m k x hop=>
    rw[hop]
    obtain⟨w',hr,hK⟩:=h
    exact upon_unit hr (hk0 _ _ hK)
  case h_26 t m k x hop=>
    rw[hop]
    obtain⟨w',hr,hK⟩:=h
    exact upon_unit hr (hk0 _ _ hK)
  case h_27 t m k hop=>
    rw[hop]
    obtain⟨v,w',hr,hK⟩:=runE_elim h
    exact upon_val hr (hk0 _ _ hK)
  case h_28 t m s x hop=>
    rw[hop]
    obtain⟨w',hr,hK⟩:=h
    exact upon_unit hr (hk0 _ _ hK)
  case h_29 t x hop=>
    rw[hop]
    obtain⟨v,w',hr,hK⟩:=runE_elim h
    exact upon_val hr (hk0 _ _ hK)
  case h_30 it b hop=>
    rw[hop]
    rcases h with⟨w',hr,hK⟩|h
    · exact upon_val (s:=Instr.next (ev (envOf a) it) b o.type) hr (hk0 _ _ hK)
    · cases b with
      | true=>
        obtain⟨i,c,w',hr,hK⟩:=h
        exact upon_val (s:=Instr.next (ev (envOf a) it) true o.type) hr (hk0 _ _ hK)
      | false=>
        obtain⟨i,c,w',hr,hK⟩:=h
        exact upon_val (s:=Instr.next (ev (envOf a) it) false o.type) hr (hk0 _ _ hK)
  case h_31 it hop=>
    rw[hop]
    obtain⟨k,v,w',hr,hK⟩:=h
    exact upon_val (s:=Instr.entry (ev (envOf a) it)) hr (hk0 _ _ hK)
  case h_32 t ix hop=>
    rw[hop]
    obtain⟨v,w',hr,hK⟩:=rawE_elim h
    exact upon_val hr (hk0 _ _ (Shp.dec_elim hK))
  case h_33 t x hop=>
    rw[hop]
    obtain⟨v,w',hr,hK⟩:=runT_elim h
    exact upon_val hr (hk0 _ _ hK)
  case h_34 c hop=>
    rw[hop]
    split at h
    · rename_i f hf
      have e:(do let d ←resolve (ev (envOf a)) c o.type;invoke d.target d.args:Sem Next)=callFunc f (c.args.toList.map (ev (envOf a))).toArray:=by
        have e2:(c.args.toList.map (ev (envOf a))).toArray=#[] ++ c.args.map (ev (envOf a)) ++ #[]:=by
          apply Array.ext';simp
        rw[e2]
        unfold resolve
        simp only[hf,ev]
        rfl
      simp only[e]
      exact callF_sound h hk0
    · rename_i f hne hf
      obtain⟨fid,first,cap,hv,hb,h⟩:=fnE_elim h
      have e:(do let d ←resolve (ev (envOf a)) c o.type;invoke d.target d.args:Sem Next)=callFunc fid (first.toList ++ (c.args.toList.map (ev (envOf a)) ++ cap.toList)).toArray:=by
        have e2:(first.toList ++ (c.args.toList.map (ev (envOf a)) ++ cap.toList)).toArray=first ++ c.args.map (ev (envOf a)) ++ cap:=by
          apply Array.ext';simp
        rw[e2]
        unfold resolve
        simp only[hf,hv]
        rfl
      simp only[e]
      exact callP_sound hb h hk0
    · rename_i b hf
      obtain⟨s,v,w',hb,hr,hK⟩:=builtinE_sound h
      rw[map_list]at hb
      have e:(do let d ←resolve (ev (envOf a)) c o.type;invoke d.target d.args:Sem Next)=(do pure (.value (←s))):=by
        rw[←hb]
        unfold resolve
        simp only[hf]
        rfl
      simp only[e]
      exact upon_val hr (hk0 _ _ hK)
    · exact h.elim
  case h_35 c hop=>
    rw[hop]
    split at h
    · rename_i f hf
      obtain⟨fid,first,cap,hv,h⟩:=fnE_elim h
      have e:(do pure (.defer (←resolve (ev (envOf a)) c o.type)):Sem Next)=pure (.defer { target:=.fn (.func fid) cap,args:=(first.toList ++ c.args.toList.map (ev (envOf a))).toArray }):=by
        have e2:(first.toList ++ c.args.toList.map (ev (envOf a))).toArray=first ++ c.args.map (ev (envOf a)):=by
          apply Array.ext';simp
        rw[e2]
        unfold resolve
        simp only[hf,hv]
        rfl
      simp only[e]
      exact hk _ _ _ h (λhn=>absurd hop (hn _))
    · exact h.elim
  case h_36=>exact h.elim
end Go.Sh
