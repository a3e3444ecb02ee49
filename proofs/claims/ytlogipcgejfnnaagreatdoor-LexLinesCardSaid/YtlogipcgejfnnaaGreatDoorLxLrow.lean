/- The given statement LexLinesCardSaid: the lines of a source are those of the reference. Conditions: none but those that the statement itself has. -/
import Derived.Test.YtlogipcgejfnnaaGreatDoorCards
import Derived.Test.YtlogipcgejfnnaaGreatDoorTie
import Derived.Test.YtlogipcgejfnnaaGreatDoorLxLaid
import Derived.Test.YtlogipcgejfnnaaGreatDoorLxOp
import Derived.Test.YtlogipcgejfnnaaGreatDoorLxOwD
import Derived.Handed
import Derived.LaidLaws
/- 'Rows.LexLinesCardSaid': the lines of a source. No condition. -/
set_option maxRecDepth 100000
set_option linter.unusedVariables false
namespace Go.Proofs.YtlogipcgejfnnaaGreatDoor
open Go.ChangeShapes Go.WideShapes Go.ChangeAt Go.RowKit Go.Sh Go.Sh.Lx
theorem lexLines_lifted (os : Os) (started : os.Started) (H : Type) (enc : TypeId × Value → H) :
    ReturnsInHanded {} Tryz.checked os 5 .any (fun w args => (Rows.lexLinesSpec.pre enc Tryz.prog Tryz.f5 [] false w args ∧ laidMet Tryz.prog laidL w) ∧ sizedMet enc Tryz.prog Tryz.f5 (OpenSpec.ofChange Rows.lexLinesSpec) false w args)
      (Rows.lexLinesSpec.post enc Tryz.prog Tryz.f5 false true false false) := by
  have hown : ownKnob Tryz.prog.godebug = none := by kernel_rfl
  have hlaid : laidOutB Tryz.prog = true := by kernel_rfl
  refine returnsInHanded_of_change_and (C := Tryz.checked) (X := fun w _ => laidMet Tryz.prog laidL w) (fun _ _ _ hh h => h.of_heap hh) hown started (by kernel_rfl) Tryz.func5
    (ChangeSpec.witness_shaped (enc := enc) (C := Tryz.checked) (os := os) (X := fun w _ => laidMet Tryz.prog laidL w) false (laidWorld os) #[.string ⟨#[]⟩] 8 rfl (World.shaped_of_RefB (by kernel_rfl) (by kernel_rfl)) (by kernel_rfl) (by kernel_rfl) (by kernel_rfl) (laid_met os _)) ?_
  intro W base args ds gs before hval0 hW hcnd hsz hlay _
  have hval : ∀ (j : Nat) t v, Tryz.f5.params[j]? = some t → args[j]? = some v → Value.okWide Tryz.prog W .any base t v := hval0
  have hW' := hW
  obtain ⟨p, q, hA0, hV, rfl, hfz, hnd⟩ := hW
  have hA : DataW.TrodAll enc Tryz.prog W 0 (fun _ => true) true Tryz.f5.params.toList args.toList ds p := hA0
  have hpar : Tryz.f5.params = #[9] := by kernel_rfl
  obtain ⟨rfl, rfl⟩ := trodVars_none hV
  have hz : (DataW.weightsEach Tryz.prog Tryz.f5.params.toList ds).all (· ≤ reachBytes) = true := by
    have h2 : (DataW.weightsEach Tryz.prog (Tryz.f5.params.toList ++ []) (ds ++ [])).all (· ≤ reachBytes) = true := hsz
    rw [List.append_nil, List.append_nil] at h2
    exact h2
  rw [hpar] at hA hval hz
  obtain ⟨v0, d0, rfl, rfl, h0⟩ := trodAll_one hA
  obtain ⟨x0, r0, l0⟩ := open_arg (α := ByteArray) (j := 0) (opens_str (by kernel_rfl)) (by kernel_rfl) (hval 0 9 v0 rfl rfl) h0 hz rfl rfl
  have r0 : [v0] = [.string x0] := r0
  obtain rfl : v0 = .string x0 := by simpa using r0
  refine (liness_c W (laid_of hlay) x0 l0).mono fun e W' ⟨he, hB⟩ => ?_
  subst he
  have hb : Tryz.prog.underlying 4 = some .bool := by kernel_rfl
  refine ⟨_, rfl, post_true hW' hlaid ?_ rfl rfl rfl rfl (tb := 4) (by kernel_rfl) hb hB⟩
  rw [hpar]
  have q9 : Tryz.prog.readableRec 9 = true ∧ 9 < Tryz.prog.types.size := ⟨by kernel_rfl, of_decide_eq_true (by kernel_rfl)⟩
  intro t ht
  simp at ht
  subst ht
  exact q9
theorem lexLines_row : Rows.LexLinesSaid :=
  OpenClaim.holds_of_wide 5 Tryz.f5 rfl rfl rfl rfl rfl rfl rfl ⟨rfl, rfl, rfl, rfl, rfl⟩ rfl rfl rfl rfl rfl (by kernel_rfl) Tryz.func5 (by kernel_rfl)
    (of_decide_eq_true (by kernel_rfl)) (by unfold Func.isWrapper; first | (rw [if_pos (by decide +kernel)]; kernel_rfl) | (rw [if_neg (by decide +kernel)]; exact ⟨rfl, rfl⟩))
    (fun os started H enc _ => lexLines_lifted os started H enc)
theorem lexLines_holds : Rows.LexLinesCardSaid :=
  Claim7.holds_tied_plain_at .later [] [.data, .pinned, .pinned] true (true, "3a65b1568720e77efdfb36bf2d9c4ef576db4f9b94f6775e14aecf870d1a4a68") false
    lexLines_row (fun _ h => by cases h) (by kernel_rfl) (fun _ h => by cases h) lexLines_row_tie rfl ⟨rfl, rfl⟩ (by kernel_rfl) rfl
    (fun f fn hf hfn => by
      obtain rfl : f = 5 := (Option.some.inj ((show Tryz.prog.funcNamed "cabinetry/cabinetrylaw05.LexLines" = some 5 by kernel_rfl).symm.trans hf)).symm
      obtain rfl : fn = Tryz.f5 := (Option.some.inj (Tryz.func5.symm.trans hfn)).symm
      refine ⟨by kernel_rfl, fun j t ht => ?_⟩
      rw [show Tryz.f5.params = #[9] by kernel_rfl] at ht
      have q9 : Tryz.prog.wantsStandIn 9 = false := by kernel_rfl
      rcases j with _ | j
      · obtain rfl : t = 9 := by simpa using ht.symm
        exact q9
      · simp at ht)
    (by kernel_rfl)
end Go.Proofs.YtlogipcgejfnnaaGreatDoor
