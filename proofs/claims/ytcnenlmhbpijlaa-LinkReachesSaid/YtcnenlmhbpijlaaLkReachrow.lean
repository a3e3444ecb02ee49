/- The given statement LinkReachesSaid: what is reached from a procedure, and what is left when the rest is trimmed, are those of the reference. Conditions: none but those that the statement itself has. -/
import Derived.Test.YtcnenlmhbpijlaaRows
import Derived.Test.YtcnenlmhbpijlaaLkReachAll
import Derived.Test.YtcnenlmhbpijlaaLkO
import Derived.Test.YtcnenlmhbpijlaaShSeventeen
/- 'Rows.LinkReachesSaid': what is reached, and what is left of modules: the program and the reference answer the same. No condition. -/
set_option maxRecDepth 100000
set_option linter.unusedVariables false
namespace Go.Proofs.Ytcnenlmhbpijlaa
open Go.ChangeShapes Go.WideShapes Go.ChangeAt Go.RowKit Go.Sh

theorem linkReaches_lifted (os : Os) (started : os.Started) (H : Type) (enc : TypeId × Value → H) :
    ReturnsInHanded {} Try.checked os 8 .any (Rows.linkReachesSpec.pre6 enc Try.prog Try.f8 Rows.linkReachesRow.domain false) (Rows.linkReachesSpec.post enc Try.prog Try.f8 false true false false) := by
  have hown : ownKnob Try.prog.godebug = none := by kernel_rfl
  have hlaid : laidOutB Try.prog = true := by kernel_rfl
  refine returnsInHanded_of_change_sized (C := Try.checked) hown started (by kernel_rfl) Try.func8
    (ChangeSpec.witness6 (enc := enc) (C := Try.checked) false ⟨#[], #[.slice none 0 0, .string ⟨#[]⟩], []⟩ 8 (by kernel_rfl) (by kernel_rfl) (by kernel_rfl) (by kernel_rfl)) ?_
  intro W base args ds gs before hval0 hW hcnd hsz _
  have hval : ∀ (j : Nat) t v, Try.f8.params[j]? = some t → args[j]? = some v → Value.okWide Try.prog W .any base t v := hval0
  have hW' := hW
  obtain ⟨p, q, hA0, hV, rfl, hfz, hnd⟩ := hW
  have hA : DataW.TrodAll enc Try.prog W 0 (fun _ => true) true Try.f8.params.toList args.toList ds p := hA0
  have hpar : Try.f8.params = #[22, 9] := by kernel_rfl
  obtain ⟨rfl, rfl⟩ := trodVars_none hV
  have hz : (DataW.weightsEach Try.prog Try.f8.params.toList ds).all (· ≤ reachBytes) = true := by
    have h2 : (DataW.weightsEach Try.prog (Try.f8.params.toList ++ []) (ds ++ [])).all (· ≤ reachBytes) = true := hsz
    rw [List.append_nil, List.append_nil] at h2
    exact h2
  rw [hpar] at hA hval hz
  obtain ⟨v0, v1, d0, d1, p0, p1, rfl, rfl, hp, h0, h1⟩ := trodAll_two hA
  obtain ⟨x0, r0, l0⟩ := open_arg (α := (List Mod)) (j := 0) (opens_list (t := 22) (e := 33) (by kernel_rfl) (by kernel_rfl) (of_decide_eq_true (by kernel_rfl)) opens_mod) (by kernel_rfl) (hval 0 22 v0 rfl rfl) h0 hz rfl rfl
  obtain ⟨s0, e0, r0⟩ := r0
  obtain rfl : v0 = .slice s0.a s0.len s0.cap := by simpa using e0
  obtain ⟨x1, r1, l1⟩ := open_arg (α := ByteArray) (j := 1) (opens_str (by kernel_rfl)) (by kernel_rfl) (hval 1 9 v1 rfl rfl) h1 hz rfl rfl
  have r1 : [v1] = [.string x1] := r1
  obtain rfl : v1 = .string x1 := by simpa using r1
  refine (reaches_k W s0 x0 r0 l0 x1 l1).mono fun e W' ⟨he, hB⟩ => ?_
  subst he
  have hb : Try.prog.underlying 4 = some .bool := by kernel_rfl
  refine ⟨_, rfl, post_true hW' hlaid ?_ rfl rfl rfl rfl (tb := 4) (by kernel_rfl) hb hB⟩
  rw [hpar]
  have q9 : Try.prog.readableRec 9 = true ∧ 9 < Try.prog.types.size := ⟨by kernel_rfl, of_decide_eq_true (by kernel_rfl)⟩
  have q22 : Try.prog.readableRec 22 = true ∧ 22 < Try.prog.types.size := ⟨by kernel_rfl, of_decide_eq_true (by kernel_rfl)⟩
  intro t ht
  simp at ht
  rcases ht with rfl | rfl
  · exact q22
  · exact q9

theorem linkReaches_holds : Rows.LinkReachesSaid :=
  OpenClaim.holds_of_wide 8 Try.f8 rfl rfl rfl rfl rfl rfl rfl ⟨rfl, rfl, rfl, rfl, rfl⟩ rfl rfl rfl rfl rfl (by kernel_rfl) Try.func8 (by kernel_rfl)
    (of_decide_eq_true (by kernel_rfl)) (by unfold Func.isWrapper; first | (rw [if_pos (by decide +kernel)]; kernel_rfl) | (rw [if_neg (by decide +kernel)]; exact ⟨rfl, rfl⟩))
    (fun os started H enc _ => linkReaches_lifted os started H enc)
end Go.Proofs.Ytcnenlmhbpijlaa
