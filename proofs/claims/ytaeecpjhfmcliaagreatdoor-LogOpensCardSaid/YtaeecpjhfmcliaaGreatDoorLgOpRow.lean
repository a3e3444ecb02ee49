/- The given statement LogOpensCardSaid: opening a store over any bytes ends with a right table, or tells that they are broken. Conditions: none but those that the statement itself has. -/
import Derived.Test.YtaeecpjhfmcliaaGreatDoorCards
import Derived.Test.YtaeecpjhfmcliaaGreatDoorTie
import Derived.Test.YtaeecpjhfmcliaaGreatDoorLtLaid
import Derived.Test.YtaeecpjhfmcliaaGreatDoorLtO
import Derived.Test.YtaeecpjhfmcliaaGreatDoorLgOwI
import Derived.Handed
/- 'Rows.LogOpensCardSaid': what is opened. No condition. -/
set_option maxRecDepth 100000
set_option linter.unusedVariables false
namespace Go.Proofs.YtaeecpjhfmcliaaGreatDoor
open Go.ChangeShapes Go.WideShapes Go.ChangeAt Go.RowKit Go.Sh
theorem logOpens_lifted(os:Os)(started:os.Started)(H:Type)(enc:TypeId × Value->H) :
  ReturnsInHanded {} Tryz.checked os 3 .any (λw args=>(Rows.logOpensSpec.pre enc Tryz.prog Tryz.f3 [] false w args/\laidMet Tryz.prog yYb w)/\sizedMet enc Tryz.prog Tryz.f3 (OpenSpec.ofChange Rows.logOpensSpec) false w args)
   (Rows.logOpensSpec.post enc Tryz.prog Tryz.f3 false true false false):=by
 have hown:ownKnob Tryz.prog.godebug=none:=by kernel_rfl
 have hlaid:laidOutB Tryz.prog=true:=by kernel_rfl
 refine returnsInHanded_of_change_and (C:=Tryz.checked) (X:=λw _=>laidMet Tryz.prog yYb w) (λ_ _ _ hh h=>h.of_heap hh) hown started (by kernel_rfl) Tryz.func3
  (ChangeSpec.witness_at (enc:=enc) (C:=Tryz.checked) (os:=os) (X:=λw _=>laidMet Tryz.prog yYb w) false (yXy os) #[.slice none 0 0,.slice none 0 0] 8 rfl (by kernel_rfl) (by kernel_rfl) (by kernel_rfl) (by kernel_rfl) (by kernel_rfl) (xQy os _)) ?_
 intro W base args ds gs before hval0 hW hcnd hsz _ _
 have hval:∀(j:Nat) t v,Tryz.f3.params[j]?=some t->args[j]?=some v->Value.okWide Tryz.prog W .any base t v:=hval0
 have hW':=hW
 obtain⟨p,q,hA0,hV,rfl,hfz,hnd⟩:=hW
 have hA:DataW.TrodAll enc Tryz.prog W 0 (λ_=>true) true Tryz.f3.params.toList args.toList ds p:=hA0
 have hpar:Tryz.f3.params=#[22,22]:=by kernel_rfl
 obtain⟨rfl,rfl⟩:=trodVars_none hV
 have hz:(DataW.weightsEach Tryz.prog Tryz.f3.params.toList ds).all (·<=reachBytes)=true:=by
  have h2:(DataW.weightsEach Tryz.prog (Tryz.f3.params.toList ++ []) (ds ++ [])).all (·<=reachBytes)=true:=hsz
  rw[List.append_nil,List.append_nil]at h2
  exact h2
 rw[hpar]at hA hval hz
 obtain⟨v0,v1,d0,d1,p0,p1,rfl,rfl,hp,h0,h1⟩:=trodAll_two hA
 obtain⟨x0,r0,l0⟩:=yZV (α:=(List UInt8)) (j:=0) (zY5 (t:=22) (e:=5) (by kernel_rfl) (by kernel_rfl) (of_decide_eq_true (by kernel_rfl)) (yJo (by kernel_rfl))) (by kernel_rfl) (hval 0 22 v0 rfl rfl) h0 hz rfl rfl
 obtain⟨s0,e0,r0⟩:=r0
 obtain rfl:v0=.slice s0.a s0.len s0.cap:=by simpa using e0
 obtain⟨x1,r1,l1⟩:=yZV (α:=(List UInt8)) (j:=1) (zY5 (t:=22) (e:=5) (by kernel_rfl) (by kernel_rfl) (of_decide_eq_true (by kernel_rfl)) (yJo (by kernel_rfl))) (by kernel_rfl) (hval 1 22 v1 rfl rfl) h1 hz rfl rfl
 obtain⟨s1,e1,r1⟩:=r1
 obtain rfl:v1=.slice s1.a s1.len s1.cap:=by simpa using e1
 refine(yJW W s0 x0 r0 l0 s1 x1 r1 l1).mono λe W' ⟨he,hB⟩=>?_
 subst he
 have hb:Tryz.prog.underlying 4=some .bool:=by kernel_rfl
 refine⟨_,rfl,yVL hW' hlaid ?_ rfl rfl rfl rfl (tb:=4) (by kernel_rfl) hb hB⟩
 rw[hpar]
 have q22:Tryz.prog.readableRec 22=true/\22<Tryz.prog.types.size:=⟨by kernel_rfl,of_decide_eq_true (by kernel_rfl)⟩
 intro t ht
 simp at ht
 obtain rfl:t=22:=by omega
 exact q22
theorem logOpens_row:Rows.LogOpensSaid:=
 OpenClaim.holds_of_wide 3 Tryz.f3 rfl rfl rfl rfl rfl rfl rfl ⟨rfl,rfl,rfl,rfl,rfl⟩ rfl rfl rfl rfl rfl (by kernel_rfl) Tryz.func3 (by kernel_rfl)
  (of_decide_eq_true (by kernel_rfl)) (by unfold Func.isWrapper;first|(rw[if_pos (by decide +kernel)];kernel_rfl)|(rw[if_neg (by decide +kernel)];exact⟨rfl,rfl⟩))
  (λos started H enc _=>logOpens_lifted os started H enc)
theorem logOpens_holds:Rows.LogOpensCardSaid:=
 Claim7.holds_tied_plain_at .later [] [.data, .pinned] true (true, "8c196b2ba2d5f0b37e87e622ad7cd8624f700fb9fb7b5634ec99eabd8e3e4e84") false
  logOpens_row (λ_ h=>by cases h) (by kernel_rfl) (λ_ h=>by cases h) logOpens_row_tie rfl ⟨rfl,rfl⟩ (by kernel_rfl) rfl
  (λf fn hf hfn=>by
   obtain rfl : f = 3 := (Option.some.inj ((show Tryz.prog.funcNamed "cabinetry/cabinetrylaw18.LogOpens" = some 3 by kernel_rfl).symm.trans hf)).symm
   obtain rfl:fn=Tryz.f3:=(Option.some.inj (Tryz.func3.symm.trans hfn)).symm
   refine⟨by kernel_rfl,λj t ht=>?_⟩
   rw[show Tryz.f3.params=#[22,22]by kernel_rfl]at ht
   have q22:Tryz.prog.wantsStandIn 22=false:=by kernel_rfl
   rcases j with _|_|j
   ·obtain rfl:t=22:=by simpa using ht.symm
    exact q22
   ·obtain rfl:t=22:=by simpa using ht.symm
    exact q22
   ·simp at ht)
  (by kernel_rfl)
end Go.Proofs.YtaeecpjhfmcliaaGreatDoor
