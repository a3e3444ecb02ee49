/- The given statement LinkOrdersSaid: the rings of calls, and an order in which each procedure stands behind those that it calls, are those of the reference. Conditions: none but those that the statement itself has. -/
import Derived.Test.YtcnenlmhbpijlaaRows
import Derived.Test.YtcnenlmhbpijlaaLkOrdAll
import Derived.Test.YtcnenlmhbpijlaaLkO
import Derived.Test.YtcnenlmhbpijlaaShSeventeen
/- 'Rows.LinkOrdersSaid': rings and orders: the program and the reference answer the same; an order there is just where there is no ring. No condition. -/
set_option maxRecDepth 100000
set_option linter.unusedVariables false
namespace Go.Proofs.Ytcnenlmhbpijlaa
open Go.ChangeShapes Go.WideShapes Go.ChangeAt Go.RowKit Go.Sh

theorem linkOrders_lifted (os : Os) (started : os.Started) (H : Type) (enc : TypeId × Value → H) :
    ReturnsInHanded {} Try.checked os 10 .any (Rows.linkOrdersSpec.pre6 enc Try.prog Try.f10 Rows.linkOrdersRow.domain false) (Rows.linkOrdersSpec.post enc Try.prog Try.f10 false true false false) := by
  have hown : ownKnob Try.prog.godebug = none := by kernel_rfl
  have hlaid : laidOutB Try.prog = true := by kernel_rfl
  refine returnsInHanded_of_change_sized (C := Try.checked) hown started (by kernel_rfl) Try.func10
    (ChangeSpec.witness6 (enc := enc) (C := Try.checked) false ⟨#[], #[.slice none 0 0], []⟩ 8 (by kernel_rfl) (by kernel_rfl) (by kernel_rfl) (by kernel_rfl)) ?_
  intro W base args ds gs before hval0 hW hcnd hsz _
  have hval : ∀ (j : Nat) t v, Try.f10.params[j]? = some t → args[j]? = some v → Value.okWide Try.prog W .any base t v := hval0
  have hW' := hW
  obtain ⟨p, q, hA0, hV, rfl, hfz, hnd⟩ := hW
  have hA : DataW.TrodAll enc Try.prog W 0 (fun _ => true) true Try.f10.params.toList args.toList ds p := hA0
  have hpar : Try.f10.params = #[22] := by kernel_rfl
  obtain ⟨rfl, rfl⟩ := trodVars_none hV
  have hz : (DataW.weightsEach Try.prog Try.f10.params.toList ds).all (· ≤ reachBytes) = true := by
    have h2 : (DataW.weightsEach Try.prog (Try.f10.params.toList ++ []) (ds ++ [])).all (· ≤ reachBytes) = true := hsz
    rw [List.append_nil, List.append_nil] at h2
    exact h2
  rw [hpar] at hA hval hz
  obtain ⟨v0, d0, rfl, rfl, h0⟩ := trodAll_one hA
  obtain ⟨x0, r0, l0⟩ := open_arg (α := (List Mod)) (j := 0) (opens_list (t := 22) (e := 33) (by kernel_rfl) (by kernel_rfl) (of_decide_eq_true (by kernel_rfl)) opens_mod) (by kernel_rfl) (hval 0 22 v0 rfl rfl) h0 hz rfl rfl
  obtain ⟨s0, e0, r0⟩ := r0
  obtain rfl : v0 = .slice s0.a s0.len s0.cap := by simpa using e0
  refine (orders_k W s0 x0 r0 l0).mono fun e W' ⟨he, hB⟩ => ?_
  subst he
  have hb : Try.prog.underlying 4 = some .bool := by kernel_rfl
  refine ⟨_, rfl, post_true hW' hlaid ?_ rfl rfl rfl rfl (tb := 4) (by kernel_rfl) hb hB⟩
  rw [hpar]
  have q22 : Try.prog.readableRec 22 = true ∧ 22 < Try.prog.types.size := ⟨by kernel_rfl, of_decide_eq_true (by kernel_rfl)⟩
  intro t ht
  simp at ht
  subst ht
  exact q22

theorem linkOrders_holds : Rows.LinkOrdersSaid :=
  OpenClaim.holds_of_wide 10 Try.f10 rfl rfl rfl rfl rfl rfl rfl ⟨rfl, rfl, rfl, rfl, rfl⟩ rfl rfl rfl rfl rfl (by kernel_rfl) Try.func10 (by kernel_rfl)
    (of_decide_eq_true (by kernel_rfl)) (by unfold Func.isWrapper; first | (rw [if_pos (by decide +kernel)]; kernel_rfl) | (rw [if_neg (by decide +kernel)]; exact ⟨rfl, rfl⟩))
    (fun os started H enc _ => linkOrders_lifted os started H enc)
end Go.Proofs.Ytcnenlmhbpijlaa
