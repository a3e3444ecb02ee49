import Derived.Test.YtaeecpjhfmcliaaGreatDoorShTwo
/- The soundness of one operation of the shallow semantics, and of a region in the order of its text. For every program. -/
namespace Go.Sh
variable {P : Program}
theorem zZu{α β:Type}(xs:Array α)(f:α->β):(xs.toList.map f).toArray=xs.map f:=by
 apply Array.ext';simp
theorem yQX {o:Oper} {a:Act} {w:World} {K:Value->List Deferred->World->Prop} (h:opE P o (zQ0 a) a.defers w K) (next:Act->World->Prop) (Q:Exit->Act->World->Prop)
  (hk:∀v ds w',K v ds w'->((∀c,o.op ≠ .defer c)->ds=a.defers)->next ({ a with defers:=ds }.put o.dst v) w'):o.wp P a w next Q:=by
 unfold Oper.wp
 rw[←zWt]
 have cw:∀v w',K v a.defers w'->next (a.put o.dst v) w':=λv w' h=>hk v a.defers w' h (λ_=>rfl)
 unfold opE at h
 unfold execOp
 split at h
 case h_1 x hop=>rw[hop];exact cw _ _ h
 case h_2 x hop=>rw[hop];exact cw _ _ h
 case h_3 c x y hop=>
  rw[hop]
  unfold yXr at h
  split at h
  ·rename_i t ht
   simp only[ht,asBool,Sem.run_bind,Sem.run_pure,Result.andThen_ok,Oper.upon]
   cases t <;> exact cw _ _ h
  ·exact h.elim
 case h_4 elem hop=>
  rw[hop]
  split at h
  case h_2=>exact h.elim
  rename_i z hz
  obtain⟨i,hi,yQ⟩:=Option.bind_eq_some_iff.1 hz
  refine zQx (s:=Instr.alloc elem true (.tuple #[])) ?_ (cw _ _ h)
  simp[Instr.alloc,zeroValue,yZk hi,yQ,newVar,newRow]
 case h_5 elem x hop=>
  rw[hop]
  refine zQx (s:=Instr.box elem (ev (zQ0 a) x)) ?_ (cw _ _ h)
  simp[Instr.box,newVar,newRow]
 case h_6 t parts hop=>
  rw[hop]
  rw[zZu]at h
  obtain⟨v,w',hr,hK⟩:=zXj h
  exact zQx hr (cw _ _ hK)
 case h_7 t len parts hop=>
  rw[hop]
  rw[zZu]at h
  obtain⟨v,w',hr,hK⟩:=zXj h
  exact zQx hr (cw _ _ hK)
 case h_8 t x hop=>
  rw[hop]
  obtain⟨ad,hx,h⟩:=zQP h
  obtain⟨v,hv,hK⟩:=zJY h
  refine zQx (s:=Instr.loadAt t (ev (zQ0 a) x)) ?_ (cw _ _ hK)
  simp[Instr.loadAt,hx,Instr.sureAddr,hv]
 case h_9 t x y hop=>
  rw[hop]
  obtain⟨ad,hx,h⟩:=zQP h
  obtain⟨w',hv,hK⟩:=yQl h
  refine zKi (s:=Instr.storeAt t (ev (zQ0 a) x) (ev (zQ0 a) y)) ?_ (cw _ _ hK)
  simp[Instr.storeAt,hx,Instr.sureAddr,hv]
 case h_10 x hop=>
  rw[hop]
  obtain⟨ad,hx,h⟩:=zQP h
  simp only[hx]
  exact cw _ _ h
 case h_11 op t x y _ hop=>
  rw[hop]
  obtain⟨v,w',hr,hK⟩:=yJi h
  exact zQx hr (cw _ _ hK)
 case h_12 op _ x hop=>
  rw[hop]
  obtain⟨v,w',hr,hK⟩:=zXj h
  exact zQx hr (cw _ _ hK)
 case h_13 src dst x hop=>
  rw[hop]
  split at h
  ·rename_i k n hx
   obtain⟨v,w',hr,hK⟩:=zXj h
   rw[←hx]at hr
   exact zQx hr (cw _ _ hK)
  ·obtain⟨v,w',hr,hK⟩:=zXa h
   exact zQx hr (cw _ _ hK)
 case h_14 fn first cap hop=>
  rw[hop]
  rw[zZu,zZu]at h
  exact zQx (s:=Instr.makeFunc fn (first.map (ev (zQ0 a))) (cap.map (ev (zQ0 a)))) rfl (cw _ _ h)
 case h_15 t hop=>
  rw[hop]
  obtain⟨v,w',hr,hK⟩:=zXj h
  exact zQx (s:=Instr.makeMap t none) hr (cw _ _ hK)
 case h_16 t r hop=>
  rw[hop]
  obtain⟨v,w',hr,hK⟩:=zXa h
  exact zQx (s:=Instr.makeMap t (some (ev (zQ0 a) r))) hr (cw _ _ hK)
 case h_17 t l c hop=>
  rw[hop]
  obtain⟨v,w',hr,hK⟩:=zXa h
  exact zQx hr (cw _ _ hK)
 case h_18 t x lo hi hop=>
  rw[hop]
  obtain⟨v,hr,hK⟩:=zWe (w:=w) h
  refine zQx (s:=Instr.sliceAt t (ev (zQ0 a) x) (lo.map (ev (zQ0 a))) (hi.map (ev (zQ0 a))) none) ?_ (cw _ _ hK)
  cases lo <;> cases hi <;> exact hr
 case h_19 t x lo hi m hop=>
  rw[hop]
  obtain⟨v,w',hr,hK⟩:=zZD h
  exact zQx (s:=Instr.sliceAt t (ev (zQ0 a) x) (lo.map (ev (zQ0 a))) (hi.map (ev (zQ0 a))) (some (ev (zQ0 a) m))) hr (cw _ _ hK)
 case h_20 s x f hop=>
  rw[hop]
  obtain⟨ad,hx,h⟩:=zQP h
  obtain⟨v,w',hr,hK⟩:=zXj h
  rw[←hx]at hr
  exact zQx hr (cw _ _ hK)
 case h_21 t x f hop=>
  rw[hop]
  obtain⟨v,w',hr,hK⟩:=zXj h
  exact zQx hr (cw _ _ hK)
 case h_22 t x i hop=>
  rw[hop]
  obtain⟨v,hr,hK⟩:=zKj (w:=w) h
  exact zQx hr (cw _ _ hK)
 case h_23 t x i hop=>
  rw[hop]
  obtain⟨v,w',hr,hK⟩:=yWE h
  exact zQx hr (cw _ _ hK)
 case h_24 t x i ok hop=>
  rw[hop]
  obtain⟨v,w',hr,hK⟩:=zXa h
  exact zQx hr (cw _ _ hK)
 case h_25 t m k x hop=>
  rw[hop]
  obtain⟨w',hr,hK⟩:=h
  exact zKi hr (cw _ _ hK)
 case h_26 t m k x hop=>
  rw[hop]
  obtain⟨w',hr,hK⟩:=h
  exact zKi hr (cw _ _ hK)
 case h_27 t m k hop=>
  rw[hop]
  obtain⟨v,w',hr,hK⟩:=zZD h
  exact zQx hr (cw _ _ hK)
 case h_28 t m s x hop=>
  rw[hop]
  obtain⟨w',hr,hK⟩:=h
  exact zKi hr (cw _ _ hK)
 case h_29 t x hop=>
  rw[hop]
  obtain⟨v,w',hr,hK⟩:=zZD h
  exact zQx hr (cw _ _ hK)
 case h_30 it b hop=>
  rw[hop]
  rcases h with⟨w',hr,hK⟩|h
  ·exact zQx (s:=Instr.next (ev (zQ0 a) it) b o.type) hr (cw _ _ hK)
  ·cases b with
   | true=>
    obtain⟨i,c,w',hr,hK⟩:=h
    exact zQx (s:=Instr.next (ev (zQ0 a) it) true o.type) hr (cw _ _ hK)
   | false=>
    obtain⟨i,c,w',hr,hK⟩:=h
    exact zQx (s:=Instr.next (ev (zQ0 a) it) false o.type) hr (cw _ _ hK)
 case h_31 it hop=>
  rw[hop]
  obtain⟨k,v,w',hr,hK⟩:=h
  exact zQx (s:=Instr.entry (ev (zQ0 a) it)) hr (cw _ _ hK)
 case h_32 t ix hop=>
  rw[hop]
  obtain⟨v,w',hr,hK⟩:=zXj h
  exact zQx hr (cw _ _ (Shp.dec_elim hK))
 case h_33 t x hop=>
  rw[hop]
  obtain⟨v,w',hr,hK⟩:=zXa h
  exact zQx hr (cw _ _ hK)
 case h_34 c hop=>
  rw[hop]
  split at h
  ·rename_i f hf
   have e:(do let d ←resolve (ev (zQ0 a)) c o.type;invoke d.target d.args:Sem Next)=callFunc f (c.args.toList.map (ev (zQ0 a))).toArray:=by
    have e2:(c.args.toList.map (ev (zQ0 a))).toArray=#[] ++ c.args.map (ev (zQ0 a)) ++ #[]:=by
     apply Array.ext';simp
    rw[e2]
    unfold resolve
    simp only[hf,ev]
    rfl
   simp only[e]
   exact yXB h cw
  ·rename_i f hne hf
   obtain⟨fid,first,cap,hv,hb,h⟩:=yXZ h
   have e:(do let d ←resolve (ev (zQ0 a)) c o.type;invoke d.target d.args:Sem Next)=callFunc fid (first.toList ++ (c.args.toList.map (ev (zQ0 a)) ++ cap.toList)).toArray:=by
    have e2:(first.toList ++ (c.args.toList.map (ev (zQ0 a)) ++ cap.toList)).toArray=first ++ c.args.map (ev (zQ0 a)) ++ cap:=by
     apply Array.ext';simp
    rw[e2]
    unfold resolve
    simp only[hf,hv]
    rfl
   simp only[e]
   exact yXM hb h cw
  ·rename_i b hf
   obtain⟨s,v,w',hb,hr,hK⟩:=zVs h
   rw[zZu]at hb
   have e:(do let d ←resolve (ev (zQ0 a)) c o.type;invoke d.target d.args:Sem Next)=(do pure (.value (←s))):=by
    rw[←hb]
    unfold resolve
    simp only[hf]
    rfl
   simp only[e]
   exact zQx hr (cw _ _ hK)
  ·exact h.elim
 case h_35 c hop=>
  rw[hop]
  split at h
  ·rename_i f hf
   obtain⟨fid,first,cap,hv,h⟩:=yXZ h
   have e:(do pure (.defer (←resolve (ev (zQ0 a)) c o.type)):Sem Next)=pure (.defer { target:=.fn (.func fid) cap,args:=(first.toList ++ c.args.toList.map (ev (zQ0 a))).toArray }):=by
    have e2:(first.toList ++ c.args.toList.map (ev (zQ0 a))).toArray=first ++ c.args.map (ev (zQ0 a)):=by
     apply Array.ext';simp
    rw[e2]
    unfold resolve
    simp only[hf,hv]
    rfl
   simp only[e]
   exact hk _ _ _ h (λhn=>absurd hop (hn _))
  ·exact h.elim
 case h_36=>exact h.elim
end Go.Sh
