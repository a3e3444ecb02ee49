import Derived.Test.YtjbfehippchniaaGreatDoorShFourteen
import Derived.ProofKit
import Derived.Carry
import Derived.OpenShut
/- What a law's statement asks behind the call, of a call that returns true and keeps what was there. For every program. -/
set_option linter.unusedSectionVars false
set_option linter.unusedSimpArgs false
namespace Go.Sh
open Go.ChangeShapes Go.WideShapes Go.ChangeAt Go.RowKit
variable {H : Type} {enc : TypeId × Value → H} {P : Program}
theorem trodAll_keep(hl:laidOutB P=true){W W':World}(hB:Below W.heap.size W W'){sp:Nat → Bool}:∀{ts:List TypeId} {vs:List Value} {ds:List (DataW H)} {ps:List MemPlace},(∀t ∈ ts,P.readableRec t=true ∧ t<P.types.size) →
    DataW.TrodAll enc P W 0 (λ_=>true) true ts vs ds ps → (∀p ∈ ps,p.block<W.heap.size) → (∀p ∈ ps,sp p.block=true) → DataW.TrodAll enc P W' 0 sp true ts vs ds ps
  | [],vs,ds,ps,_,h,_,_=>by
    obtain⟨rfl,rfl,rfl⟩:=trodAll_nil h
    exact trodAll_mk0
  | t :: ts,vs,ds,ps,ht,h,hlt,hsp=>by
    obtain⟨v,vs',d,ds',p,q,rfl,rfl,rfl,h1,h2⟩:=trodAll_cons h
    exact trodAll_cons_mk (WideElems.Trod_stays hl (ht t (by simp)).1 (ht t (by simp)).2 h1 (λx hx=>hB.same (hlt x (by simp[hx]))) (λx hx=>hsp x (by simp[hx])))
      (trodAll_keep hl hB (λt' h'=>ht t' (by simp[h'])) h2 (λx hx=>hlt x (by simp[hx])) (λx hx=>hsp x (by simp[hx])))
theorem post_true {f:Func} {s:ChangeSpec} {apart fresh handsOn again:Bool} {W W':World} {args:Array Value} {ds:List (DataW H)} {before:List MemPlace}
    (hW:DataW.Whole enc P f.params.toList s.vars apart W args.toList ds [] before) (hl:laidOutB P=true) (hts:∀t ∈ f.params.toList,P.readableRec t=true ∧ t<P.types.size) (hv:s.vars=[])
    (hres:(s.fn H (ds ++ [])).results=[.lit (.bool true)]) (harg:(s.fn H (ds ++ [])).args=ds) (hvar:(s.fn H (ds ++ [])).vars=[]) {tb:TypeId} (hrt:f.resultTypes=#[tb]) (hb:P.underlying tb=some .bool) (hB:Below W.heap.size W W') :
    s.post enc P f apart fresh handsOn again W args (.bool true) W':=by
  have hlt:∀p ∈ before,p.block<W.heap.size:=λp hp=>hW.lt p hp
  have hold:∀p ∈ before,(λb=>decide (b<W.heap.size)) p.block=true:=λp hp=>by simpa using hlt p hp
  have hW0:=hW
  obtain⟨p,q,hA,hV,hpq,hz,hn⟩:=hW0
  rw[hv]at hV
  obtain⟨_,hq⟩:=trodVars_none hV
  subst hq
  have hbp:before=p:=by rw[hpq];simp
  subst hbp
  have hargs:∀sp:Nat → Bool,(∀x ∈ before,sp x.block=true) → DataW.TrodAll enc P W' 0 sp true f.params.toList args.toList (s.fn H (ds ++ [])).args before:=λsp hsp=>by
    rw[harg];exact trodAll_keep hl hB hts hA hlt hsp
  have hresT:∀(b:Nat) (sp:Nat → Bool) (hd:Bool),DataW.TrodAll enc P W' b sp hd f.resultTypes.toList ((Value.bool true).resultList f.resultTypes.size) (s.fn H (ds ++ [])).results []:=λb sp hd=>by
    rw[hres,hrt];exact trodAll_mk1 (shut_bool hb true)
  have hvars:∀sp:Nat → Bool,DataW.TrodVars enc P W' sp s.vars (s.fn H (ds ++ [])).vars []:=λsp=>by
    rw[hv,hvar];rfl
  refine⟨ds,[],before,[],before,[],hW,hresT _ _ _,hargs _ hold,hvars _,hB.frame _,λ_=>?_⟩
  refine⟨ok_one hrt rfl (okWide_bool_mk hb true),_,_,([] ++ before) ++ [],⟨[] ++ before,[],trodAll_append (hargs _ (λ_ _=>rfl)) (hresT _ _ _),hvars _,rfl,?_,?_⟩,?_⟩
  · intro b off hp
    have hm:MemPlace.cell b off ∈ before:=by simpa using hp
    rw[hB.frozen (p:=⟨b,off,none⟩) (hlt _ hm)]
    exact hz b off hm
  · intro ha
    have:=hn ha
    simpa using this
  · intro x hx _
    simpa using hx
end Go.Sh
