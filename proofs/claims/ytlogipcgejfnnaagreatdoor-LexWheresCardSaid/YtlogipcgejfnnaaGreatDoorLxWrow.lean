/- The given statement LexWheresCardSaid: the line and the column of a place are those of the reference. Conditions: none but those that the statement itself has. -/
import Derived.Test.YtlogipcgejfnnaaGreatDoorCards
import Derived.Test.YtlogipcgejfnnaaGreatDoorTie
import Derived.Test.YtlogipcgejfnnaaGreatDoorLxLaid
import Derived.Test.YtlogipcgejfnnaaGreatDoorLxOp
import Derived.Test.YtlogipcgejfnnaaGreatDoorLxOwD
import Derived.Handed
import Derived.LaidLaws
/- 'Rows.LexWheresCardSaid': the line and the column of a place. No condition. -/
set_option maxRecDepth 100000
set_option linter.unusedVariables false
namespace Go.Proofs.YtlogipcgejfnnaaGreatDoor
open Go.ChangeShapes Go.WideShapes Go.ChangeAt Go.RowKit Go.Sh Go.Sh.Lx
theorem lexWheres_lifted (os : Os) (started : os.Started) (H : Type) (enc : TypeId × Value → H) :
    ReturnsInHanded {} Tryz.checked os 7 .any (fun w args => (Rows.lexWheresSpec.pre enc Tryz.prog Tryz.f7 [] false w args ∧ laidMet Tryz.prog laidL w) ∧ sizedMet enc Tryz.prog Tryz.f7 (OpenSpec.ofChange Rows.lexWheresSpec) false w args)
      (Rows.lexWheresSpec.post enc Tryz.prog Tryz.f7 false true false false) := by
  have hown : ownKnob Tryz.prog.godebug = none := by kernel_rfl
  have hlaid : laidOutB Tryz.prog = true := by kernel_rfl
  refine returnsInHanded_of_change_and (C := Tryz.checked) (X := fun w _ => laidMet Tryz.prog laidL w) (fun _ _ _ hh h => h.of_heap hh) hown started (by kernel_rfl) Tryz.func7
    (ChangeSpec.witness_shaped (enc := enc) (C := Tryz.checked) (os := os) (X := fun w _ => laidMet Tryz.prog laidL w) false (laidWorld os) #[.string ⟨#[]⟩, .int .i64 0] 8 rfl (World.shaped_of_RefB (by kernel_rfl) (by kernel_rfl)) (by kernel_rfl) (by kernel_rfl) (by kernel_rfl) (laid_met os _)) ?_
  intro W base args ds gs before hval0 hW hcnd hsz hlay _
  have hval : ∀ (j : Nat) t v, Tryz.f7.params[j]? = some t → args[j]? = some v → Value.okWide Tryz.prog W .any base t v := hval0
  have hW' := hW
  obtain ⟨p, q, hA0, hV, rfl, hfz, hnd⟩ := hW
  have hA : DataW.TrodAll enc Tryz.prog W 0 (fun _ => true) true Tryz.f7.params.toList args.toList ds p := hA0
  have hpar : Tryz.f7.params = #[9, 3] := by kernel_rfl
  obtain ⟨rfl, rfl⟩ := trodVars_none hV
  have hz : (DataW.weightsEach Tryz.prog Tryz.f7.params.toList ds).all (· ≤ reachBytes) = true := by
    have h2 : (DataW.weightsEach Tryz.prog (Tryz.f7.params.toList ++ []) (ds ++ [])).all (· ≤ reachBytes) = true := hsz
    rw [List.append_nil, List.append_nil] at h2
    exact h2
  rw [hpar] at hA hval hz
  obtain ⟨v0, v1, d0, d1, p0, p1, rfl, rfl, hp, h0, h1⟩ := trodAll_two hA
  obtain ⟨x0, r0, l0⟩ := open_arg (α := ByteArray) (j := 0) (opens_str (by kernel_rfl)) (by kernel_rfl) (hval 0 9 v0 rfl rfl) h0 hz rfl rfl
  have r0 : [v0] = [.string x0] := r0
  obtain rfl : v0 = .string x0 := by simpa using r0
  obtain ⟨x1, r1, l1⟩ := open_arg (α := Int) (j := 1) (opens_int (by kernel_rfl)) (by kernel_rfl) (hval 1 3 v1 rfl rfl) h1 hz rfl rfl
  obtain ⟨r1, _⟩ := r1
  obtain rfl : v1 = .int .i64 x1 := by simpa using r1
  refine (wheres_c W (laid_of hlay) x0 l0 x1 l1).mono fun e W' ⟨he, hB⟩ => ?_
  subst he
  have hb : Tryz.prog.underlying 4 = some .bool := by kernel_rfl
  refine ⟨_, rfl, post_true hW' hlaid ?_ rfl rfl rfl rfl (tb := 4) (by kernel_rfl) hb hB⟩
  rw [hpar]
  have q3 : Tryz.prog.readableRec 3 = true ∧ 3 < Tryz.prog.types.size := ⟨by kernel_rfl, of_decide_eq_true (by kernel_rfl)⟩
  have q9 : Tryz.prog.readableRec 9 = true ∧ 9 < Tryz.prog.types.size := ⟨by kernel_rfl, of_decide_eq_true (by kernel_rfl)⟩
  intro t ht
  simp at ht
  rcases ht with rfl | rfl
  · exact q9
  · exact q3
theorem lexWheres_row : Rows.LexWheresSaid :=
  OpenClaim.holds_of_wide 7 Tryz.f7 rfl rfl rfl rfl rfl rfl rfl ⟨rfl, rfl, rfl, rfl, rfl⟩ rfl rfl rfl rfl rfl (by kernel_rfl) Tryz.func7 (by kernel_rfl)
    (of_decide_eq_true (by kernel_rfl)) (by unfold Func.isWrapper; first | (rw [if_pos (by decide +kernel)]; kernel_rfl) | (rw [if_neg (by decide +kernel)]; exact ⟨rfl, rfl⟩))
    (fun os started H enc _ => lexWheres_lifted os started H enc)
theorem lexWheres_holds : Rows.LexWheresCardSaid :=
  Claim7.holds_tied_plain_at .later [] [.data, .pinned, .pinned] true (true, "3a65b1568720e77efdfb36bf2d9c4ef576db4f9b94f6775e14aecf870d1a4a68") false
    lexWheres_row (fun _ h => by cases h) (by kernel_rfl) (fun _ h => by cases h) lexWheres_row_tie rfl ⟨rfl, rfl⟩ (by kernel_rfl) rfl
    (fun f fn hf hfn => by
      obtain rfl : f = 7 := (Option.some.inj ((show Tryz.prog.funcNamed "cabinetry/cabinetrylaw05.LexWheres" = some 7 by kernel_rfl).symm.trans hf)).symm
      obtain rfl : fn = Tryz.f7 := (Option.some.inj (Tryz.func7.symm.trans hfn)).symm
      refine ⟨by kernel_rfl, fun j t ht => ?_⟩
      rw [show Tryz.f7.params = #[9, 3] by kernel_rfl] at ht
      have q3 : Tryz.prog.wantsStandIn 3 = false := by kernel_rfl
      have q9 : Tryz.prog.wantsStandIn 9 = false := by kernel_rfl
      rcases j with _ | _ | j
      · obtain rfl : t = 9 := by simpa using ht.symm
        exact q9
      · obtain rfl : t = 3 := by simpa using ht.symm
        exact q3
      · simp at ht)
    (by kernel_rfl)
end Go.Proofs.YtlogipcgejfnnaaGreatDoor
