/- The given statement PreKeepsCardSaid: a text without directives is made of its own tokens, and expanding again changes nothing. Conditions: none but those that the statement itself has. -/
import Derived.Test.YtjbfehippchniaaGreatDoorCards
import Derived.Test.YtjbfehippchniaaGreatDoorTie
import Derived.Test.YtjbfehippchniaaGreatDoorPrRw
import Derived.Test.YtjbfehippchniaaGreatDoorPrOwG
/- 'Rows.PreKeepsCardSaid': a text without directives is made of its tokens, and what is expanded stays as it is. No condition. -/
set_option maxRecDepth 100000
set_option linter.unusedVariables false
namespace Go.Proofs.YtjbfehippchniaaGreatDoor
open Go.ChangeShapes Go.WideShapes Go.ChangeAt Go.RowKit Go.Sh Go.Sh.Lx
theorem preKeeps_lifted(os:Os)(started:os.Started)(H:Type)(enc:TypeId × Value → H) :
    ReturnsInHanded {} Tryz.checked os 4 .any (λw args=>(Rows.preKeepsSpec.pre enc Tryz.prog Tryz.f4 [] false w args ∧ laidMet Tryz.prog laidL w) ∧ sizedMet enc Tryz.prog Tryz.f4 (OpenSpec.ofChange Rows.preKeepsSpec) false w args)
      (Rows.preKeepsSpec.post enc Tryz.prog Tryz.f4 false true false false):=by
  have hown:ownKnob Tryz.prog.godebug=none:=by kernel_rfl
  have hlaid:laidOutB Tryz.prog=true:=by kernel_rfl
  refine row_shaped (X:=λw=>laidMet Tryz.prog laidL w) (λ_ _ hh h=>h.of_heap hh) hown started (by kernel_rfl) Tryz.func4
    (ChangeSpec.witness_shaped (enc:=enc) (C:=Tryz.checked) (os:=os) (X:=λw _=>laidMet Tryz.prog laidL w) false (laidWorld os) #[.string ⟨#[]⟩] 8 rfl (World.shaped_of_RefB (by kernel_rfl) (by kernel_rfl)) (by kernel_rfl) (by kernel_rfl) (by kernel_rfl) (laid_met os _)) ?_
  intro W base args ds gs before hval0 hW hsz hlay hsh
  have hval:∀(j:Nat) t v,Tryz.f4.params[j]?=some t → args[j]?=some v → Value.okWide Tryz.prog W .any base t v:=hval0
  have hW':=hW
  obtain⟨p,q,hA0,hV,rfl,hfz,hnd⟩:=hW
  have hA:DataW.TrodAll enc Tryz.prog W 0 (λ_=>true) true Tryz.f4.params.toList args.toList ds p:=hA0
  have hpar:Tryz.f4.params=#[9]:=by kernel_rfl
  obtain⟨rfl,rfl⟩:=trodVars_none hV
  have hz:(DataW.weightsEach Tryz.prog Tryz.f4.params.toList ds).all (· ≤ reachBytes)=true:=by
    have h2:(DataW.weightsEach Tryz.prog (Tryz.f4.params.toList ++ []) (ds ++ [])).all (· ≤ reachBytes)=true:=hsz
    rw[List.append_nil,List.append_nil]at h2
    exact h2
  rw[hpar]at hA hval hz
  obtain⟨v0,d0,rfl,rfl,h0⟩:=trodAll_one hA
  obtain⟨x0,r0,l0⟩:=open_arg (α:=ByteArray) (j:=0) (opens_str (by kernel_rfl)) (by kernel_rfl) (hval 0 9 v0 rfl rfl) h0 hz rfl rfl
  have r0:[v0]=[.string x0]:=r0
  obtain rfl:v0=.string x0:=by simpa using r0
  refine(keeps_c known_c (laid_of hlay) (maxL_of hsh) x0 l0).mono λe W' ⟨he,hB⟩=>?_
  subst he
  have hb:Tryz.prog.underlying 4=some .bool:=by kernel_rfl
  refine⟨_,rfl,post_true hW' hlaid ?_ rfl rfl rfl rfl (tb:=4) (by kernel_rfl) hb hB⟩
  rw[hpar]
  have q9:Tryz.prog.readableRec 9=true ∧ 9<Tryz.prog.types.size:=⟨by kernel_rfl,of_decide_eq_true (by kernel_rfl)⟩
  intro t ht
  simp at ht
  subst ht
  exact q9
theorem preKeeps_row:Rows.PreKeepsSaid:=
  OpenClaim.holds_of_wide 4 Tryz.f4 rfl rfl rfl rfl rfl rfl rfl ⟨rfl,rfl,rfl,rfl,rfl⟩ rfl rfl rfl rfl rfl (by kernel_rfl) Tryz.func4 (by kernel_rfl)
    (of_decide_eq_true (by kernel_rfl)) (by unfold Func.isWrapper;first|(rw[if_pos (by decide +kernel)];kernel_rfl)|(rw[if_neg (by decide +kernel)];exact⟨rfl,rfl⟩))
    (λos started H enc _=>preKeeps_lifted os started H enc)
theorem preKeeps_holds:Rows.PreKeepsCardSaid:=
  Claim7.holds_tied_plain_at .later [] [.data, .pinned, .pinned] true (true, "a60000680e0262a30ddd2a70009de127dfad4d1b17acd8d1b23778b49617e8a7") false
    preKeeps_row (λ_ h=>by cases h) (by kernel_rfl) (λ_ h=>by cases h) preKeeps_row_tie rfl ⟨rfl,rfl⟩ (by kernel_rfl) rfl
    (λf fn hf hfn=>by
      obtain rfl : f = 4 := (Option.some.inj ((show Tryz.prog.funcNamed "cabinetry/cabinetrylaw07.PreKeeps" = some 4 by kernel_rfl).symm.trans hf)).symm
      obtain rfl:fn=Tryz.f4:=(Option.some.inj (Tryz.func4.symm.trans hfn)).symm
      refine⟨by kernel_rfl,λj t ht=>?_⟩
      rw[show Tryz.f4.params=#[9]by kernel_rfl]at ht
      have q9:Tryz.prog.wantsStandIn 9=false:=by kernel_rfl
      rcases j with _|j
      · obtain rfl:t=9:=by simpa using ht.symm
        exact q9
      · simp at ht)
    (by kernel_rfl)
end Go.Proofs.YtjbfehippchniaaGreatDoor
