/- The given statement LogPlaysCardSaid: each act on a store tells what the reference tells, and commits the same tables. Conditions: none but those that the statement itself has. -/
import Derived.Test.YtaeecpjhfmcliaaGreatDoorCards
import Derived.Test.YtaeecpjhfmcliaaGreatDoorTie
import Derived.Test.YtaeecpjhfmcliaaGreatDoorLtLaid
import Derived.Test.YtaeecpjhfmcliaaGreatDoorLgO2
import Derived.Test.YtaeecpjhfmcliaaGreatDoorLgOwJ
import Derived.Handed
/- 'Rows.LogPlaysCardSaid': each act of a script. No condition. -/
set_option maxRecDepth 100000
set_option linter.unusedVariables false
namespace Go.Proofs.YtaeecpjhfmcliaaGreatDoor
open Go.ChangeShapes Go.WideShapes Go.ChangeAt Go.RowKit Go.Sh
theorem logPlays_lifted(os:Os)(started:os.Started)(H:Type)(enc:TypeId × Value->H) :
  ReturnsInHanded {} Tryz.checked os 4 .any (λw args=>(Rows.logPlaysSpec.pre enc Tryz.prog Tryz.f4 [] false w args/\laidMet Tryz.prog xX6 w)/\sizedMet enc Tryz.prog Tryz.f4 (OpenSpec.ofChange Rows.logPlaysSpec) false w args)
   (Rows.logPlaysSpec.post enc Tryz.prog Tryz.f4 false true false false):=by
 have hown:ownKnob Tryz.prog.godebug=none:=by kernel_rfl
 have hlaid:laidOutB Tryz.prog=true:=by kernel_rfl
 refine returnsInHanded_of_change_and (C:=Tryz.checked) (X:=λw _=>laidMet Tryz.prog xX6 w) (λ_ _ _ hh h=>h.of_heap hh) hown started (by kernel_rfl) Tryz.func4
  (ChangeSpec.witness_at (enc:=enc) (C:=Tryz.checked) (os:=os) (X:=λw _=>laidMet Tryz.prog xX6 w) false (yZh os) #[.agg #[.int .i64 0,.slice none 0 0,.slice none 0 0,.slice none 0 0,.slice none 0 0,.slice none 0 0]] 8 rfl (by kernel_rfl) (by kernel_rfl) (by kernel_rfl) (by kernel_rfl) (by kernel_rfl) (xJh os _)) ?_
 intro W base args ds gs before hval0 hW hcnd hsz _ _
 have hval:∀(j:Nat) t v,Tryz.f4.params[j]?=some t->args[j]?=some v->Value.okWide Tryz.prog W .any base t v:=hval0
 have hW':=hW
 obtain⟨p,q,hA0,hV,rfl,hfz,hnd⟩:=hW
 have hA:DataW.TrodAll enc Tryz.prog W 0 (λ_=>true) true Tryz.f4.params.toList args.toList ds p:=hA0
 have hpar:Tryz.f4.params=#[41]:=by kernel_rfl
 obtain⟨rfl,rfl⟩:=trodVars_none hV
 have hz:(DataW.weightsEach Tryz.prog Tryz.f4.params.toList ds).all (·<=reachBytes)=true:=by
  have h2:(DataW.weightsEach Tryz.prog (Tryz.f4.params.toList ++ []) (ds ++ [])).all (·<=reachBytes)=true:=hsz
  rw[List.append_nil,List.append_nil]at h2
  exact h2
 rw[hpar]at hA hval hz
 obtain⟨v0,d0,rfl,rfl,h0⟩:=trodAll_one hA
 obtain⟨c0,rfl,x0,r0,l0⟩:=xZM (α:=zZf) (j:=0) yXN (by kernel_rfl) (hval 0 41 v0 rfl rfl) h0 hz rfl rfl
 obtain⟨z0,rfl,r0⟩:=r0
 refine(yWY W x0 z0 r0 l0).mono λe W' ⟨he,hB⟩=>?_
 subst he
 have hb:Tryz.prog.underlying 4=some .bool:=by kernel_rfl
 refine⟨_,rfl,yYn hW' hlaid ?_ rfl rfl rfl rfl (tb:=4) (by kernel_rfl) hb hB⟩
 rw[hpar]
 have q41:Tryz.prog.readableRec 41=true/\41<Tryz.prog.types.size:=⟨by kernel_rfl,of_decide_eq_true (by kernel_rfl)⟩
 intro t ht
 simp at ht
 obtain rfl:t=41:=by omega
 exact q41
theorem logPlays_row:Rows.LogPlaysSaid:=
 OpenClaim.holds_of_wide 4 Tryz.f4 rfl rfl rfl rfl rfl rfl rfl ⟨rfl,rfl,rfl,rfl,rfl⟩ rfl rfl rfl rfl rfl (by kernel_rfl) Tryz.func4 (by kernel_rfl)
  (of_decide_eq_true (by kernel_rfl)) (by unfold Func.isWrapper;first|(rw[if_pos (by decide +kernel)];kernel_rfl)|(rw[if_neg (by decide +kernel)];exact⟨rfl,rfl⟩))
  (λos started H enc _=>logPlays_lifted os started H enc)
theorem logPlays_holds:Rows.LogPlaysCardSaid:=
 Claim7.holds_tied_plain_at .later [] [.data, .pinned] true (true, "8c196b2ba2d5f0b37e87e622ad7cd8624f700fb9fb7b5634ec99eabd8e3e4e84") false
  logPlays_row (λ_ h=>by cases h) (by kernel_rfl) (λ_ h=>by cases h) logPlays_row_tie rfl ⟨rfl,rfl⟩ (by kernel_rfl) rfl
  (λf fn hf hfn=>by
   obtain rfl : f = 4 := (Option.some.inj ((show Tryz.prog.funcNamed "cabinetry/cabinetrylaw18.LogPlays" = some 4 by kernel_rfl).symm.trans hf)).symm
   obtain rfl:fn=Tryz.f4:=(Option.some.inj (Tryz.func4.symm.trans hfn)).symm
   refine⟨by kernel_rfl,λj t ht=>?_⟩
   rw[show Tryz.f4.params=#[41]by kernel_rfl]at ht
   have q41:Tryz.prog.wantsStandIn 41=false:=by kernel_rfl
   rcases j with _|j
   ·obtain rfl:t=41:=by simpa using ht.symm
    exact q41
   ·simp at ht)
  (by kernel_rfl)
end Go.Proofs.YtaeecpjhfmcliaaGreatDoor
