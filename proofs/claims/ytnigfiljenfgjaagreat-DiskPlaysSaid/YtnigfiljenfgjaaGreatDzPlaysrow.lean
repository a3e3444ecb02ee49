/- The given statement DiskPlaysSaid: each call of a system tells what the reference tells, and the files are the same. Conditions: none but those that the statement itself has. -/
import Derived.Test.YtnigfiljenfgjaaGreatRows
import Derived.Test.YtnigfiljenfgjaaGreatDzOwI
import Derived.Test.YtnigfiljenfgjaaGreatShSeventeen
/- 'Rows.DiskPlaysSaid': what each call tells, and what is on the disk. No condition. -/
set_option maxRecDepth 100000
set_option linter.unusedVariables false
namespace Go.Proofs.YtnigfiljenfgjaaGreat
open Go.ChangeShapes Go.WideShapes Go.ChangeAt Go.RowKit Go.Sh
theorem diskPlays_lifted (os : Os) (started : os.Started) (H : Type) (enc : TypeId × Value → H) :
    ReturnsInHanded {} Tryz.checked os 5 .any (Rows.diskPlaysSpec.pre6 enc Tryz.prog Tryz.f5 Rows.diskPlaysRow.domain false) (Rows.diskPlaysSpec.post enc Tryz.prog Tryz.f5 false true false false) := by
  have hown : ownKnob Tryz.prog.godebug = none := by kernel_rfl
  have hlaid : laidOutB Tryz.prog = true := by kernel_rfl
  refine returnsInHanded_of_change_sized (C := Tryz.checked) hown started (by kernel_rfl) Tryz.func5
    (ChangeSpec.witness6 (enc := enc) (C := Tryz.checked) false ⟨#[], #[.slice none 0 0], []⟩ 8 (by kernel_rfl) (by kernel_rfl) (by kernel_rfl) (by kernel_rfl)) ?_
  intro W base args ds gs before hval0 hW hcnd hsz _
  have hval : ∀ (j : Nat) t v, Tryz.f5.params[j]? = some t → args[j]? = some v → Value.okWide Tryz.prog W .any base t v := hval0
  have hW' := hW
  obtain ⟨p, q, hA0, hV, rfl, hfz, hnd⟩ := hW
  have hA : DataW.TrodAll enc Tryz.prog W 0 (fun _ => true) true Tryz.f5.params.toList args.toList ds p := hA0
  have hpar : Tryz.f5.params = #[22] := by kernel_rfl
  obtain ⟨rfl, rfl⟩ := trodVars_none hV
  have hz : (DataW.weightsEach Tryz.prog Tryz.f5.params.toList ds).all (· ≤ reachBytes) = true := by
    have h2 : (DataW.weightsEach Tryz.prog (Tryz.f5.params.toList ++ []) (ds ++ [])).all (· ≤ reachBytes) = true := hsz
    rw [List.append_nil, List.append_nil] at h2
    exact h2
  rw [hpar] at hA hval hz
  obtain ⟨v0, d0, rfl, rfl, h0⟩ := trodAll_one hA
  obtain ⟨x0, r0, l0⟩ := open_arg (α := (List Act)) (j := 0) (opens_list (t := 22) (e := 31) (by kernel_rfl) (by kernel_rfl) (of_decide_eq_true (by kernel_rfl)) opens_act) (by kernel_rfl) (hval 0 22 v0 rfl rfl) h0 hz rfl rfl
  obtain ⟨s0, e0, r0⟩ := r0
  obtain rfl : v0 = .slice s0.a s0.len s0.cap := by simpa using e0
  refine (diskPlays_c W s0 x0 r0 l0).mono fun e W' ⟨he, hB⟩ => ?_
  subst he
  have hb : Tryz.prog.underlying 4 = some .bool := by kernel_rfl
  refine ⟨_, rfl, post_true hW' hlaid ?_ rfl rfl rfl rfl (tb := 4) (by kernel_rfl) hb hB⟩
  rw [hpar]
  have q22 : Tryz.prog.readableRec 22 = true ∧ 22 < Tryz.prog.types.size := ⟨by kernel_rfl, of_decide_eq_true (by kernel_rfl)⟩
  intro t ht
  simp at ht
  subst ht
  exact q22
theorem diskPlays_holds : Rows.DiskPlaysSaid :=
  OpenClaim.holds_of_wide 5 Tryz.f5 rfl rfl rfl rfl rfl rfl rfl ⟨rfl, rfl, rfl, rfl, rfl⟩ rfl rfl rfl rfl rfl (by kernel_rfl) Tryz.func5 (by kernel_rfl)
    (of_decide_eq_true (by kernel_rfl)) (by unfold Func.isWrapper; first | (rw [if_pos (by decide +kernel)]; kernel_rfl) | (rw [if_neg (by decide +kernel)]; exact ⟨rfl, rfl⟩))
    (fun os started H enc _ => diskPlays_lifted os started H enc)
end Go.Proofs.YtnigfiljenfgjaaGreat
