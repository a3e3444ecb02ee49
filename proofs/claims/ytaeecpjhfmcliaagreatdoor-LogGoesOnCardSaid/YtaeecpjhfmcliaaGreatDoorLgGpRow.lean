/- The given statement LogGoesOnCardSaid: a store opened behind a fall goes on like a new one that has its table. Conditions: none but those that the statement itself has. -/
import Derived.Test.YtaeecpjhfmcliaaGreatDoorCards
import Derived.Test.YtaeecpjhfmcliaaGreatDoorTie
import Derived.Test.YtaeecpjhfmcliaaGreatDoorLtLaid
import Derived.Test.YtaeecpjhfmcliaaGreatDoorLgO2
import Derived.Test.YtaeecpjhfmcliaaGreatDoorLgOwK
import Derived.Handed
/- 'Rows.LogGoesOnCardSaid': a store opened behind a fall goes on. No condition. -/
set_option maxRecDepth 100000
set_option linter.unusedVariables false
namespace Go.Proofs.YtaeecpjhfmcliaaGreatDoor
open Go.ChangeShapes Go.WideShapes Go.ChangeAt Go.RowKit Go.Sh
theorem logGoesOn_lifted(os:Os)(started:os.Started)(H:Type)(enc:TypeId × Value->H) :
  ReturnsInHanded {} Tryz.checked os 9 .any (λw args=>(Rows.logGoesOnSpec.pre enc Tryz.prog Tryz.f9 [] false w args/\laidMet Tryz.prog xZa w)/\sizedMet enc Tryz.prog Tryz.f9 (OpenSpec.ofChange Rows.logGoesOnSpec) false w args)
   (Rows.logGoesOnSpec.post enc Tryz.prog Tryz.f9 false true false false):=by
 have hown:ownKnob Tryz.prog.godebug=none:=by kernel_rfl
 have hlaid:laidOutB Tryz.prog=true:=by kernel_rfl
 refine returnsInHanded_of_change_and (C:=Tryz.checked) (X:=λw _=>laidMet Tryz.prog xZa w) (λ_ _ _ hh h=>h.of_heap hh) hown started (by kernel_rfl) Tryz.func9
  (ChangeSpec.witness_at (enc:=enc) (C:=Tryz.checked) (os:=os) (X:=λw _=>laidMet Tryz.prog xZa w) false (yZf os) #[.agg #[.int .i64 0,.slice none 0 0,.slice none 0 0,.slice none 0 0,.slice none 0 0,.slice none 0 0],.slice none 0 0,.agg #[.int .i64 0,.int .i64 0]] 8 rfl (by kernel_rfl) (by kernel_rfl) (by kernel_rfl) (by kernel_rfl) (by kernel_rfl) (xZC os _)) ?_
 intro W base args ds gs before hval0 hW hcnd hsz _ _
 have hval:∀(j:Nat) t v,Tryz.f9.params[j]?=some t->args[j]?=some v->Value.okWide Tryz.prog W .any base t v:=hval0
 have hW':=hW
 obtain⟨p,q,hA0,hV,rfl,hfz,hnd⟩:=hW
 have hA:DataW.TrodAll enc Tryz.prog W 0 (λ_=>true) true Tryz.f9.params.toList args.toList ds p:=hA0
 have hpar:Tryz.f9.params=#[41,39,75]:=by kernel_rfl
 obtain⟨rfl,rfl⟩:=trodVars_none hV
 have hz:(DataW.weightsEach Tryz.prog Tryz.f9.params.toList ds).all (·<=reachBytes)=true:=by
  have h2:(DataW.weightsEach Tryz.prog (Tryz.f9.params.toList ++ []) (ds ++ [])).all (·<=reachBytes)=true:=hsz
  rw[List.append_nil,List.append_nil]at h2
  exact h2
 rw[hpar]at hA hval hz
 obtain⟨v0,v1,v2,d0,d1,d2,p0,p1,p2,rfl,rfl,hp,h0,h1,h2⟩:=trodAll_three hA
 obtain⟨c0,rfl,x0,r0,l0⟩:=yK6 (α:=zXB) (j:=0) yZe (by kernel_rfl) (hval 0 41 v0 rfl rfl) h0 hz rfl rfl
 obtain⟨z0,rfl,r0⟩:=r0
 obtain⟨x1,r1,l1⟩:=xJB (α:=(List Act)) (j:=1) (zZ1 (t:=39) (e:=48) (by kernel_rfl) (by kernel_rfl) (of_decide_eq_true (by kernel_rfl)) yZ1) (by kernel_rfl) (hval 1 39 v1 rfl rfl) h1 hz rfl rfl
 obtain⟨s1,e1,r1⟩:=r1
 obtain rfl:v1=.slice s1.a s1.len s1.cap:=by simpa using e1
 obtain⟨c2,rfl,x2,r2,l2⟩:=yK6 (α:=Two) (j:=2) yYM (by kernel_rfl) (hval 2 75 v2 rfl rfl) h2 hz rfl rfl
 obtain⟨rfl,r2⟩:=r2
 refine(yJC W x0 z0 r0 l0 s1 x1 r1 l1 x2 r2).mono λe W' ⟨he,hB⟩=>?_
 subst he
 have hb:Tryz.prog.underlying 4=some .bool:=by kernel_rfl
 refine⟨_,rfl,xQH hW' hlaid ?_ rfl rfl rfl rfl (tb:=4) (by kernel_rfl) hb hB⟩
 rw[hpar]
 have q39:Tryz.prog.readableRec 39=true/\39<Tryz.prog.types.size:=⟨by kernel_rfl,of_decide_eq_true (by kernel_rfl)⟩
 have q41:Tryz.prog.readableRec 41=true/\41<Tryz.prog.types.size:=⟨by kernel_rfl,of_decide_eq_true (by kernel_rfl)⟩
 have q75:Tryz.prog.readableRec 75=true/\75<Tryz.prog.types.size:=⟨by kernel_rfl,of_decide_eq_true (by kernel_rfl)⟩
 intro t ht
 simp at ht
 rcases ht with rfl|rfl|rfl
 ·exact q41
 ·exact q39
 ·exact q75
theorem logGoesOn_row:Rows.LogGoesOnSaid:=
 OpenClaim.holds_of_wide 9 Tryz.f9 rfl rfl rfl rfl rfl rfl rfl ⟨rfl,rfl,rfl,rfl,rfl⟩ rfl rfl rfl rfl rfl (by kernel_rfl) Tryz.func9 (by kernel_rfl)
  (of_decide_eq_true (by kernel_rfl)) (by unfold Func.isWrapper;first|(rw[if_pos (by decide +kernel)];kernel_rfl)|(rw[if_neg (by decide +kernel)];exact⟨rfl,rfl⟩))
  (λos started H enc _=>logGoesOn_lifted os started H enc)
theorem logGoesOn_holds:Rows.LogGoesOnCardSaid:=
 Claim7.holds_tied_plain_at .later [] [.data, .pinned] true (true, "8c196b2ba2d5f0b37e87e622ad7cd8624f700fb9fb7b5634ec99eabd8e3e4e84") false
  logGoesOn_row (λ_ h=>by cases h) (by kernel_rfl) (λ_ h=>by cases h) logGoesOn_row_tie rfl ⟨rfl,rfl⟩ (by kernel_rfl) rfl
  (λf fn hf hfn=>by
   obtain rfl : f = 9 := (Option.some.inj ((show Tryz.prog.funcNamed "cabinetry/cabinetrylaw18.LogGoesOn" = some 9 by kernel_rfl).symm.trans hf)).symm
   obtain rfl:fn=Tryz.f9:=(Option.some.inj (Tryz.func9.symm.trans hfn)).symm
   refine⟨by kernel_rfl,λj t ht=>?_⟩
   rw[show Tryz.f9.params=#[41,39,75]by kernel_rfl]at ht
   have q39:Tryz.prog.wantsStandIn 39=false:=by kernel_rfl
   have q41:Tryz.prog.wantsStandIn 41=false:=by kernel_rfl
   have q75:Tryz.prog.wantsStandIn 75=false:=by kernel_rfl
   rcases j with _|_|_|j
   ·obtain rfl:t=41:=by simpa using ht.symm
    exact q41
   ·obtain rfl:t=39:=by simpa using ht.symm
    exact q39
   ·obtain rfl:t=75:=by simpa using ht.symm
    exact q75
   ·simp at ht)
  (by kernel_rfl)
end Go.Proofs.YtaeecpjhfmcliaaGreatDoor
