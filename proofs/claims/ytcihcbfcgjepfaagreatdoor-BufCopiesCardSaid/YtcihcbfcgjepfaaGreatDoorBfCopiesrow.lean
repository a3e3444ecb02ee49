/- The given statement BufCopiesCardSaid: a copy of a desk equals it and lives by itself, and desks are equal as the reference has it. Conditions: none but those that the statement itself has. -/
import Derived.Test.YtcihcbfcgjepfaaGreatDoorCards
import Derived.Test.YtcihcbfcgjepfaaGreatDoorTie
import Derived.Test.YtcihcbfcgjepfaaGreatDoorBtLaid
import Derived.Test.YtcihcbfcgjepfaaGreatDoorBtO
import Derived.Test.YtcihcbfcgjepfaaGreatDoorBfOwK
import Derived.Handed
/- 'Rows.BufCopiesCardSaid': The law on copies of desks.. No condition. -/
set_option maxRecDepth 100000
set_option linter.unusedVariables false
namespace Go.Proofs.YtcihcbfcgjepfaaGreatDoor
open Go.ChangeShapes Go.WideShapes Go.ChangeAt Go.RowKit Go.Sh
theorem bufCopies_lifted(os:Os)(started:os.Started)(H:Type)(enc:TypeId × Value->H) :
  ReturnsInHanded {} Tryz.checked os 8 .any (λw args=>(Rows.bufCopiesSpec.pre enc Tryz.prog Tryz.f8 [] false w args/\laidMet Tryz.prog yKu w)/\sizedMet enc Tryz.prog Tryz.f8 (OpenSpec.ofChange Rows.bufCopiesSpec) false w args)
   (Rows.bufCopiesSpec.post enc Tryz.prog Tryz.f8 false true false false):=by
 have hown:ownKnob Tryz.prog.godebug=none:=by kernel_rfl
 have hlaid:laidOutB Tryz.prog=true:=by kernel_rfl
 refine returnsInHanded_of_change_and (C:=Tryz.checked) (X:=λw _=>laidMet Tryz.prog yKu w) (λ_ _ _ hh h=>h.of_heap hh) hown started (by kernel_rfl) Tryz.func8
  (ChangeSpec.witness_at (enc:=enc) (C:=Tryz.checked) (os:=os) (X:=λw _=>laidMet Tryz.prog yKu w) false (zYL os) #[.agg #[.int .i64 0,.slice none 0 0,.slice none 0 0],.slice none 0 0,.slice none 0 0] 8 rfl (by kernel_rfl) (by kernel_rfl) (by kernel_rfl) (by kernel_rfl) (by kernel_rfl) (yYB os _)) ?_
 intro W base args ds gs before hval0 hW hcnd hsz _ _
 have hval:∀(j:Nat) t v,Tryz.f8.params[j]?=some t->args[j]?=some v->Value.okWide Tryz.prog W .any base t v:=hval0
 have hW':=hW
 obtain⟨p,q,hA0,hV,rfl,hfz,hnd⟩:=hW
 have hA:DataW.TrodAll enc Tryz.prog W 0 (λ_=>true) true Tryz.f8.params.toList args.toList ds p:=hA0
 have hpar:Tryz.f8.params=#[25,49,49]:=by kernel_rfl
 obtain⟨rfl,rfl⟩:=trodVars_none hV
 have hz:(DataW.weightsEach Tryz.prog Tryz.f8.params.toList ds).all (·<=reachBytes)=true:=by
  have h2:(DataW.weightsEach Tryz.prog (Tryz.f8.params.toList ++ []) (ds ++ [])).all (·<=reachBytes)=true:=hsz
  rw[List.append_nil,List.append_nil]at h2
  exact h2
 rw[hpar]at hA hval hz
 obtain⟨v0,v1,v2,d0,d1,d2,p0,p1,p2,rfl,rfl,hp,h0,h1,h2⟩:=trodAll_three hA
 obtain⟨c0,rfl,x0,r0,l0⟩:=xQa (α:=Tbl) (j:=0) yKQ (by kernel_rfl) (hval 0 25 v0 rfl rfl) h0 hz rfl rfl
 obtain⟨f0,g0,rfl,r0⟩:=r0
 obtain⟨x1,r1,l1⟩:=yZm (α:=(List Act)) (j:=1) (zZH (t:=49) (e:=51) (by kernel_rfl) (by kernel_rfl) (of_decide_eq_true (by kernel_rfl)) yQg) (by kernel_rfl) (hval 1 49 v1 rfl rfl) h1 hz rfl rfl
 obtain⟨s1,e1,r1⟩:=r1
 obtain rfl:v1=.slice s1.a s1.len s1.cap:=by simpa using e1
 obtain⟨x2,r2,l2⟩:=yZm (α:=(List Act)) (j:=2) (zZH (t:=49) (e:=51) (by kernel_rfl) (by kernel_rfl) (of_decide_eq_true (by kernel_rfl)) yQg) (by kernel_rfl) (hval 2 49 v2 rfl rfl) h2 hz rfl rfl
 obtain⟨s2,e2,r2⟩:=r2
 obtain rfl:v2=.slice s2.a s2.len s2.cap:=by simpa using e2
 refine(yQJ W x0 f0 g0 r0 l0 s1 x1 r1 l1 s2 x2 r2 l2).mono λe W' ⟨he,hB⟩=>?_
 subst he
 have hb:Tryz.prog.underlying 4=some .bool:=by kernel_rfl
 refine⟨_,rfl,yWI hW' hlaid ?_ rfl rfl rfl rfl (tb:=4) (by kernel_rfl) hb hB⟩
 rw[hpar]
 have q25:Tryz.prog.readableRec 25=true/\25<Tryz.prog.types.size:=⟨by kernel_rfl,of_decide_eq_true (by kernel_rfl)⟩
 have q49:Tryz.prog.readableRec 49=true/\49<Tryz.prog.types.size:=⟨by kernel_rfl,of_decide_eq_true (by kernel_rfl)⟩
 intro t ht
 simp at ht
 rcases ht with rfl|rfl
 ·exact q25
 ·exact q49
theorem bufCopies_row:Rows.BufCopiesSaid:=
 OpenClaim.holds_of_wide 8 Tryz.f8 rfl rfl rfl rfl rfl rfl rfl ⟨rfl,rfl,rfl,rfl,rfl⟩ rfl rfl rfl rfl rfl (by kernel_rfl) Tryz.func8 (by kernel_rfl)
  (of_decide_eq_true (by kernel_rfl)) (by unfold Func.isWrapper;first|(rw[if_pos (by decide +kernel)];kernel_rfl)|(rw[if_neg (by decide +kernel)];exact⟨rfl,rfl⟩))
  (λos started H enc _=>bufCopies_lifted os started H enc)
theorem bufCopies_holds:Rows.BufCopiesCardSaid:=
 Claim7.holds_tied_plain_at .later [] [.data, .pinned] true (true, "50ecca2c2abfc3f5ea0ffb317becf0f515af161f7347639d0b99f3253fe5895a") true
  bufCopies_row (λ_ h=>by cases h) (by kernel_rfl) (λ_ h=>by cases h) bufCopies_row_tie rfl ⟨rfl,rfl⟩ (by kernel_rfl) rfl
  (λf fn hf hfn=>by
   obtain rfl : f = 8 := (Option.some.inj ((show Tryz.prog.funcNamed "cabinetry/cabinetrylaw17.BufCopies" = some 8 by kernel_rfl).symm.trans hf)).symm
   obtain rfl:fn=Tryz.f8:=(Option.some.inj (Tryz.func8.symm.trans hfn)).symm
   refine⟨by kernel_rfl,λj t ht=>?_⟩
   rw[show Tryz.f8.params=#[25,49,49]by kernel_rfl]at ht
   have q25:Tryz.prog.wantsStandIn 25=false:=by kernel_rfl
   have q49:Tryz.prog.wantsStandIn 49=false:=by kernel_rfl
   rcases j with _|_|_|j
   ·obtain rfl:t=25:=by simpa using ht.symm
    exact q25
   ·obtain rfl:t=49:=by simpa using ht.symm
    exact q49
   ·obtain rfl:t=49:=by simpa using ht.symm
    exact q49
   ·simp at ht)
  (by kernel_rfl)
end Go.Proofs.YtcihcbfcgjepfaaGreatDoor
