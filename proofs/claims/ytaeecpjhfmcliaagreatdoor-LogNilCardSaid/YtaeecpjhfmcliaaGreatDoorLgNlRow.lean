/- The given statement LogNilCardSaid: the methods of a store that is nil tell what they must. Conditions: none but those that the statement itself has. -/
import Derived.Test.YtaeecpjhfmcliaaGreatDoorCards
import Derived.Test.YtaeecpjhfmcliaaGreatDoorTie
import Derived.Test.YtaeecpjhfmcliaaGreatDoorLtLaid
import Derived.Test.YtaeecpjhfmcliaaGreatDoorLgO2
import Derived.Test.YtaeecpjhfmcliaaGreatDoorLgOwG
import Derived.Handed
/- 'Rows.LogNilCardSaid': the methods of no store. No condition. -/
set_option maxRecDepth 100000
set_option linter.unusedVariables false
namespace Go.Proofs.YtaeecpjhfmcliaaGreatDoor
open Go.ChangeShapes Go.WideShapes Go.ChangeAt Go.RowKit Go.Sh
theorem logNil_lifted(os:Os)(started:os.Started)(H:Type)(enc:TypeId × Value->H) :
  ReturnsInHanded {} Tryz.checked os 8 .any (λw args=>(Rows.logNilSpec.pre enc Tryz.prog Tryz.f8 [] false w args/\laidMet Tryz.prog yVA w)/\sizedMet enc Tryz.prog Tryz.f8 (OpenSpec.ofChange Rows.logNilSpec) false w args)
   (Rows.logNilSpec.post enc Tryz.prog Tryz.f8 false true false false):=by
 have hown:ownKnob Tryz.prog.godebug=none:=by kernel_rfl
 have hlaid:laidOutB Tryz.prog=true:=by kernel_rfl
 refine returnsInHanded_of_change_and (C:=Tryz.checked) (X:=λw _=>laidMet Tryz.prog yVA w) (λ_ _ _ hh h=>h.of_heap hh) hown started (by kernel_rfl) Tryz.func8
  (ChangeSpec.witness_at (enc:=enc) (C:=Tryz.checked) (os:=os) (X:=λw _=>laidMet Tryz.prog yVA w) false (zYX os) #[.int .i64 0] 8 rfl (by kernel_rfl) (by kernel_rfl) (by kernel_rfl) (by kernel_rfl) (by kernel_rfl) (yYI os _)) ?_
 intro W base args ds gs before hval0 hW hcnd hsz _ _
 have hval:∀(j:Nat) t v,Tryz.f8.params[j]?=some t->args[j]?=some v->Value.okWide Tryz.prog W .any base t v:=hval0
 have hW':=hW
 obtain⟨p,q,hA0,hV,rfl,hfz,hnd⟩:=hW
 have hA:DataW.TrodAll enc Tryz.prog W 0 (λ_=>true) true Tryz.f8.params.toList args.toList ds p:=hA0
 have hpar:Tryz.f8.params=#[3]:=by kernel_rfl
 obtain⟨rfl,rfl⟩:=trodVars_none hV
 have hz:(DataW.weightsEach Tryz.prog Tryz.f8.params.toList ds).all (·<=reachBytes)=true:=by
  have h2:(DataW.weightsEach Tryz.prog (Tryz.f8.params.toList ++ []) (ds ++ [])).all (·<=reachBytes)=true:=hsz
  rw[List.append_nil,List.append_nil]at h2
  exact h2
 rw[hpar]at hA hval hz
 obtain⟨v0,d0,rfl,rfl,h0⟩:=trodAll_one hA
 obtain⟨x0,r0,l0⟩:=yYr (α:=Int) (j:=0) (yKV (by kernel_rfl)) (by kernel_rfl) (hval 0 3 v0 rfl rfl) h0 hz rfl rfl
 obtain⟨r0,_⟩:=r0
 obtain rfl:v0=.int .i64 x0:=by simpa using r0
 refine(yYw W x0 l0).mono λe W' ⟨he,hB⟩=>?_
 subst he
 have hb:Tryz.prog.underlying 4=some .bool:=by kernel_rfl
 refine⟨_,rfl,yW9 hW' hlaid ?_ rfl rfl rfl rfl (tb:=4) (by kernel_rfl) hb hB⟩
 rw[hpar]
 have q3:Tryz.prog.readableRec 3=true/\3<Tryz.prog.types.size:=⟨by kernel_rfl,of_decide_eq_true (by kernel_rfl)⟩
 intro t ht
 simp at ht
 obtain rfl:t=3:=by omega
 exact q3
theorem logNil_row:Rows.LogNilSaid:=
 OpenClaim.holds_of_wide 8 Tryz.f8 rfl rfl rfl rfl rfl rfl rfl ⟨rfl,rfl,rfl,rfl,rfl⟩ rfl rfl rfl rfl rfl (by kernel_rfl) Tryz.func8 (by kernel_rfl)
  (of_decide_eq_true (by kernel_rfl)) (by unfold Func.isWrapper;first|(rw[if_pos (by decide +kernel)];kernel_rfl)|(rw[if_neg (by decide +kernel)];exact⟨rfl,rfl⟩))
  (λos started H enc _=>logNil_lifted os started H enc)
theorem logNil_holds:Rows.LogNilCardSaid:=
 Claim7.holds_tied_plain_at .later [] [.data, .pinned] true (true, "8c196b2ba2d5f0b37e87e622ad7cd8624f700fb9fb7b5634ec99eabd8e3e4e84") false
  logNil_row (λ_ h=>by cases h) (by kernel_rfl) (λ_ h=>by cases h) logNil_row_tie rfl ⟨rfl,rfl⟩ (by kernel_rfl) rfl
  (λf fn hf hfn=>by
   obtain rfl : f = 8 := (Option.some.inj ((show Tryz.prog.funcNamed "cabinetry/cabinetrylaw18.LogNil" = some 8 by kernel_rfl).symm.trans hf)).symm
   obtain rfl:fn=Tryz.f8:=(Option.some.inj (Tryz.func8.symm.trans hfn)).symm
   refine⟨by kernel_rfl,λj t ht=>?_⟩
   rw[show Tryz.f8.params=#[3]by kernel_rfl]at ht
   have q3:Tryz.prog.wantsStandIn 3=false:=by kernel_rfl
   rcases j with _|j
   ·obtain rfl:t=3:=by simpa using ht.symm
    exact q3
   ·simp at ht)
  (by kernel_rfl)
end Go.Proofs.YtaeecpjhfmcliaaGreatDoor
