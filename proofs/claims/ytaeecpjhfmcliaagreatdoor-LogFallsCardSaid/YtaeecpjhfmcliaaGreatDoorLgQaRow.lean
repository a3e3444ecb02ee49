/- The given statement LogFallsCardSaid: after every fall inside a write the store opens with the last or the next committed table, never going back as falls come later. Conditions: none but those that the statement itself has. -/
import Derived.Test.YtaeecpjhfmcliaaGreatDoorCards
import Derived.Test.YtaeecpjhfmcliaaGreatDoorTie
import Derived.Test.YtaeecpjhfmcliaaGreatDoorLtLaid
import Derived.Test.YtaeecpjhfmcliaaGreatDoorLgO2
import Derived.Test.YtaeecpjhfmcliaaGreatDoorLgOwK
import Derived.Handed
/- 'Rows.LogFallsCardSaid': behind any fall. No condition. -/
set_option maxRecDepth 100000
set_option linter.unusedVariables false
namespace Go.Proofs.YtaeecpjhfmcliaaGreatDoor
open Go.ChangeShapes Go.WideShapes Go.ChangeAt Go.RowKit Go.Sh
theorem logFalls_lifted(os:Os)(started:os.Started)(H:Type)(enc:TypeId × Value->H) :
  ReturnsInHanded {} Tryz.checked os 5 .any (λw args=>(Rows.logFallsSpec.pre enc Tryz.prog Tryz.f5 [] false w args/\laidMet Tryz.prog yZ6 w)/\sizedMet enc Tryz.prog Tryz.f5 (OpenSpec.ofChange Rows.logFallsSpec) false w args)
   (Rows.logFallsSpec.post enc Tryz.prog Tryz.f5 false true false false):=by
 have hown:ownKnob Tryz.prog.godebug=none:=by kernel_rfl
 have hlaid:laidOutB Tryz.prog=true:=by kernel_rfl
 refine returnsInHanded_of_change_and (C:=Tryz.checked) (X:=λw _=>laidMet Tryz.prog yZ6 w) (λ_ _ _ hh h=>h.of_heap hh) hown started (by kernel_rfl) Tryz.func5
  (ChangeSpec.witness_at (enc:=enc) (C:=Tryz.checked) (os:=os) (X:=λw _=>laidMet Tryz.prog yZ6 w) false (zYo os) #[.agg #[.int .i64 0,.slice none 0 0,.slice none 0 0,.slice none 0 0,.slice none 0 0,.slice none 0 0],.int .i64 0] 8 rfl (by kernel_rfl) (by kernel_rfl) (by kernel_rfl) (by kernel_rfl) (by kernel_rfl) (yKc os _)) ?_
 intro W base args ds gs before hval0 hW hcnd hsz _ _
 have hval:∀(j:Nat) t v,Tryz.f5.params[j]?=some t->args[j]?=some v->Value.okWide Tryz.prog W .any base t v:=hval0
 have hW':=hW
 obtain⟨p,q,hA0,hV,rfl,hfz,hnd⟩:=hW
 have hA:DataW.TrodAll enc Tryz.prog W 0 (λ_=>true) true Tryz.f5.params.toList args.toList ds p:=hA0
 have hpar:Tryz.f5.params=#[41,3]:=by kernel_rfl
 obtain⟨rfl,rfl⟩:=trodVars_none hV
 have hz:(DataW.weightsEach Tryz.prog Tryz.f5.params.toList ds).all (·<=reachBytes)=true:=by
  have h2:(DataW.weightsEach Tryz.prog (Tryz.f5.params.toList ++ []) (ds ++ [])).all (·<=reachBytes)=true:=hsz
  rw[List.append_nil,List.append_nil]at h2
  exact h2
 rw[hpar]at hA hval hz
 obtain⟨v0,v1,d0,d1,p0,p1,rfl,rfl,hp,h0,h1⟩:=trodAll_two hA
 obtain⟨c0,rfl,x0,r0,l0⟩:=yK7 (α:=zXQ) (j:=0) zVu (by kernel_rfl) (hval 0 41 v0 rfl rfl) h0 hz rfl rfl
 obtain⟨z0,rfl,r0⟩:=r0
 obtain⟨x1,r1,l1⟩:=yQV (α:=Int) (j:=1) (zX4 (by kernel_rfl)) (by kernel_rfl) (hval 1 3 v1 rfl rfl) h1 hz rfl rfl
 obtain⟨r1,_⟩:=r1
 obtain rfl:v1=.int .i64 x1:=by simpa using r1
 refine(yVy W x0 z0 r0 l0 x1 l1).mono λe W' ⟨he,hB⟩=>?_
 subst he
 have hb:Tryz.prog.underlying 4=some .bool:=by kernel_rfl
 refine⟨_,rfl,yZO hW' hlaid ?_ rfl rfl rfl rfl (tb:=4) (by kernel_rfl) hb hB⟩
 rw[hpar]
 have q3:Tryz.prog.readableRec 3=true/\3<Tryz.prog.types.size:=⟨by kernel_rfl,of_decide_eq_true (by kernel_rfl)⟩
 have q41:Tryz.prog.readableRec 41=true/\41<Tryz.prog.types.size:=⟨by kernel_rfl,of_decide_eq_true (by kernel_rfl)⟩
 intro t ht
 simp at ht
 rcases ht with rfl|rfl
 ·exact q41
 ·exact q3
theorem logFalls_row:Rows.LogFallsSaid:=
 OpenClaim.holds_of_wide 5 Tryz.f5 rfl rfl rfl rfl rfl rfl rfl ⟨rfl,rfl,rfl,rfl,rfl⟩ rfl rfl rfl rfl rfl (by kernel_rfl) Tryz.func5 (by kernel_rfl)
  (of_decide_eq_true (by kernel_rfl)) (by unfold Func.isWrapper;first|(rw[if_pos (by decide +kernel)];kernel_rfl)|(rw[if_neg (by decide +kernel)];exact⟨rfl,rfl⟩))
  (λos started H enc _=>logFalls_lifted os started H enc)
theorem logFalls_holds:Rows.LogFallsCardSaid:=
 Claim7.holds_tied_plain_at .later [] [.data, .pinned] true (true, "8c196b2ba2d5f0b37e87e622ad7cd8624f700fb9fb7b5634ec99eabd8e3e4e84") false
  logFalls_row (λ_ h=>by cases h) (by kernel_rfl) (λ_ h=>by cases h) logFalls_row_tie rfl ⟨rfl,rfl⟩ (by kernel_rfl) rfl
  (λf fn hf hfn=>by
   obtain rfl : f = 5 := (Option.some.inj ((show Tryz.prog.funcNamed "cabinetry/cabinetrylaw18.LogFalls" = some 5 by kernel_rfl).symm.trans hf)).symm
   obtain rfl:fn=Tryz.f5:=(Option.some.inj (Tryz.func5.symm.trans hfn)).symm
   refine⟨by kernel_rfl,λj t ht=>?_⟩
   rw[show Tryz.f5.params=#[41,3]by kernel_rfl]at ht
   have q3:Tryz.prog.wantsStandIn 3=false:=by kernel_rfl
   have q41:Tryz.prog.wantsStandIn 41=false:=by kernel_rfl
   rcases j with _|_|j
   ·obtain rfl:t=41:=by simpa using ht.symm
    exact q41
   ·obtain rfl:t=3:=by simpa using ht.symm
    exact q3
   ·simp at ht)
  (by kernel_rfl)
end Go.Proofs.YtaeecpjhfmcliaaGreatDoor
