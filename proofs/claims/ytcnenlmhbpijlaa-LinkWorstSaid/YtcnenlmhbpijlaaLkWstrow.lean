/- The given statement LinkWorstSaid: the greatest number of loads of walks of a length is that of the reference. Conditions: none but those that the statement itself has. -/
import Derived.Test.YtcnenlmhbpijlaaRows
import Derived.Test.YtcnenlmhbpijlaaLkWstAll
import Derived.Test.YtcnenlmhbpijlaaLkO
import Derived.Test.YtcnenlmhbpijlaaShSeventeen
/- 'Rows.LinkWorstSaid': the greatest number of loads of walks of some length. No condition. -/
set_option maxRecDepth 100000
set_option linter.unusedVariables false
namespace Go.Proofs.Ytcnenlmhbpijlaa
open Go.ChangeShapes Go.WideShapes Go.ChangeAt Go.RowKit Go.Sh

theorem linkWorst_lifted (os : Os) (started : os.Started) (H : Type) (enc : TypeId × Value → H) :
    ReturnsInHanded {} Try.checked os 13 .any (Rows.linkWorstSpec.pre6 enc Try.prog Try.f13 Rows.linkWorstRow.domain false) (Rows.linkWorstSpec.post enc Try.prog Try.f13 false true false false) := by
  have hown : ownKnob Try.prog.godebug = none := by kernel_rfl
  have hlaid : laidOutB Try.prog = true := by kernel_rfl
  refine returnsInHanded_of_change_sized (C := Try.checked) hown started (by kernel_rfl) Try.func13
    (ChangeSpec.witness6 (enc := enc) (C := Try.checked) false ⟨#[], #[.slice none 0 0, .string ⟨#[]⟩, .int .i64 0], []⟩ 8 (by kernel_rfl) (by kernel_rfl) (by kernel_rfl) (by kernel_rfl)) ?_
  intro W base args ds gs before hval0 hW hcnd hsz _
  have hval : ∀ (j : Nat) t v, Try.f13.params[j]? = some t → args[j]? = some v → Value.okWide Try.prog W .any base t v := hval0
  have hW' := hW
  obtain ⟨p, q, hA0, hV, rfl, hfz, hnd⟩ := hW
  have hA : DataW.TrodAll enc Try.prog W 0 (fun _ => true) true Try.f13.params.toList args.toList ds p := hA0
  have hpar : Try.f13.params = #[22, 9, 3] := by kernel_rfl
  obtain ⟨rfl, rfl⟩ := trodVars_none hV
  have hz : (DataW.weightsEach Try.prog Try.f13.params.toList ds).all (· ≤ reachBytes) = true := by
    have h2 : (DataW.weightsEach Try.prog (Try.f13.params.toList ++ []) (ds ++ [])).all (· ≤ reachBytes) = true := hsz
    rw [List.append_nil, List.append_nil] at h2
    exact h2
  rw [hpar] at hA hval hz
  obtain ⟨v0, v1, v2, d0, d1, d2, p0, p1, p2, rfl, rfl, hp, h0, h1, h2⟩ := trodAll_three hA
  obtain ⟨x0, r0, l0⟩ := open_arg (α := (List Mod)) (j := 0) (opens_list (t := 22) (e := 33) (by kernel_rfl) (by kernel_rfl) (of_decide_eq_true (by kernel_rfl)) opens_mod) (by kernel_rfl) (hval 0 22 v0 rfl rfl) h0 hz rfl rfl
  obtain ⟨s0, e0, r0⟩ := r0
  obtain rfl : v0 = .slice s0.a s0.len s0.cap := by simpa using e0
  obtain ⟨x1, r1, l1⟩ := open_arg (α := ByteArray) (j := 1) (opens_str (by kernel_rfl)) (by kernel_rfl) (hval 1 9 v1 rfl rfl) h1 hz rfl rfl
  have r1 : [v1] = [.string x1] := r1
  obtain rfl : v1 = .string x1 := by simpa using r1
  obtain ⟨x2, r2, l2⟩ := open_arg (α := Int) (j := 2) (opens_int (by kernel_rfl)) (by kernel_rfl) (hval 2 3 v2 rfl rfl) h2 hz rfl rfl
  obtain ⟨r2, _⟩ := r2
  obtain rfl : v2 = .int .i64 x2 := by simpa using r2
  refine (worst_k W s0 x0 r0 l0 x1 l1 x2 l2).mono fun e W' ⟨he, hB⟩ => ?_
  subst he
  have hb : Try.prog.underlying 4 = some .bool := by kernel_rfl
  refine ⟨_, rfl, post_true hW' hlaid ?_ rfl rfl rfl rfl (tb := 4) (by kernel_rfl) hb hB⟩
  rw [hpar]
  have q3 : Try.prog.readableRec 3 = true ∧ 3 < Try.prog.types.size := ⟨by kernel_rfl, of_decide_eq_true (by kernel_rfl)⟩
  have q9 : Try.prog.readableRec 9 = true ∧ 9 < Try.prog.types.size := ⟨by kernel_rfl, of_decide_eq_true (by kernel_rfl)⟩
  have q22 : Try.prog.readableRec 22 = true ∧ 22 < Try.prog.types.size := ⟨by kernel_rfl, of_decide_eq_true (by kernel_rfl)⟩
  intro t ht
  simp at ht
  rcases ht with rfl | rfl | rfl
  · exact q22
  · exact q9
  · exact q3

theorem linkWorst_holds : Rows.LinkWorstSaid :=
  OpenClaim.holds_of_wide 13 Try.f13 rfl rfl rfl rfl rfl rfl rfl ⟨rfl, rfl, rfl, rfl, rfl⟩ rfl rfl rfl rfl rfl (by kernel_rfl) Try.func13 (by kernel_rfl)
    (of_decide_eq_true (by kernel_rfl)) (by unfold Func.isWrapper; first | (rw [if_pos (by decide +kernel)]; kernel_rfl) | (rw [if_neg (by decide +kernel)]; exact ⟨rfl, rfl⟩))
    (fun os started H enc _ => linkWorst_lifted os started H enc)
end Go.Proofs.Ytcnenlmhbpijlaa
