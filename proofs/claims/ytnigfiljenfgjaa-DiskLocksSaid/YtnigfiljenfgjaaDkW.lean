/- 'Rows.DiskLocksSaid': a station that locks, reads and writes within its lock reads what the last one to do so wrote. No condition. -/
import Derived.Test.YtnigfiljenfgjaaRows
import Derived.Test.YtnigfiljenfgjaaDkV
import Derived.Test.YtnigfiljenfgjaaShSeventeen
set_option maxRecDepth 100000
set_option linter.unusedVariables false
namespace Go.Proofs.Ytnigfiljenfgjaa
open Go.ChangeShapes Go.WideShapes Go.ChangeAt Go.RowKit Go.Sh

theorem diskLocks_lifted (os : Os) (started : os.Started) (H : Type) (enc : TypeId × Value → H) :
    ReturnsInHanded {} Try.checked os 4 .any (Rows.diskLocksSpec.pre6 enc Try.prog Try.f4 Rows.diskLocksRow.domain false) (Rows.diskLocksSpec.post enc Try.prog Try.f4 false true false false) := by
  have hown : ownKnob Try.prog.godebug = none := by kernel_rfl
  have hlaid : laidOutB Try.prog = true := by kernel_rfl
  refine returnsInHanded_of_change_sized (C := Try.checked) hown started (by kernel_rfl) Try.func4
    (ChangeSpec.witness6 (enc := enc) (C := Try.checked) false ⟨#[], #[.slice none 0 0, .int .i64 0], []⟩ 8 (by kernel_rfl) (by kernel_rfl) (by kernel_rfl) (by kernel_rfl)) ?_
  intro W base args ds gs before hval0 hW hcnd hsz _
  have hval : ∀ (j : Nat) t v, Try.f4.params[j]? = some t → args[j]? = some v → Value.okWide Try.prog W .any base t v := hval0
  have hW' := hW
  obtain ⟨p, q, hA0, hV, rfl, hfz, hnd⟩ := hW
  have hA : DataW.TrodAll enc Try.prog W 0 (fun _ => true) true Try.f4.params.toList args.toList ds p := hA0
  have hpar : Try.f4.params = #[36, 3] := by kernel_rfl
  obtain ⟨rfl, rfl⟩ := trodVars_none hV
  have hz : (DataW.weightsEach Try.prog Try.f4.params.toList ds).all (· ≤ reachBytes) = true := by
    have h2 : (DataW.weightsEach Try.prog (Try.f4.params.toList ++ []) (ds ++ [])).all (· ≤ reachBytes) = true := hsz
    rw [List.append_nil, List.append_nil] at h2
    exact h2
  rw [hpar] at hA hval hz
  obtain ⟨v0, v1, d0, d1, p0, p1, rfl, rfl, hp, h0, h1⟩ := trodAll_two hA
  obtain ⟨x0, r0, l0⟩ := open_arg (α := (List Int)) (j := 0) (opens_list (t := 36) (e := 3) (by kernel_rfl) (by kernel_rfl) (of_decide_eq_true (by kernel_rfl)) (opens_int (by kernel_rfl))) (by kernel_rfl) (hval 0 36 v0 rfl rfl) h0 hz rfl rfl
  obtain ⟨s0, e0, r0⟩ := r0
  obtain rfl : v0 = .slice s0.a s0.len s0.cap := by simpa using e0
  obtain ⟨x1, r1, l1⟩ := open_arg (α := Int) (j := 1) (opens_int (by kernel_rfl)) (by kernel_rfl) (hval 1 3 v1 rfl rfl) h1 hz rfl rfl
  obtain ⟨r1, _⟩ := r1
  obtain rfl : v1 = .int .i64 x1 := by simpa using r1
  refine (locks_k W s0 x0 r0 l0 x1 l1).mono fun e W' ⟨he, hB⟩ => ?_
  subst he
  have hb : Try.prog.underlying 4 = some .bool := by kernel_rfl
  refine ⟨_, rfl, post_true hW' hlaid ?_ rfl rfl rfl rfl (tb := 4) (by kernel_rfl) hb hB⟩
  rw [hpar]
  have q3 : Try.prog.readableRec 3 = true ∧ 3 < Try.prog.types.size := ⟨by kernel_rfl, of_decide_eq_true (by kernel_rfl)⟩
  have q36 : Try.prog.readableRec 36 = true ∧ 36 < Try.prog.types.size := ⟨by kernel_rfl, of_decide_eq_true (by kernel_rfl)⟩
  intro t ht
  simp at ht
  rcases ht with rfl | rfl
  · exact q36
  · exact q3

theorem diskLocks_holds : Rows.DiskLocksSaid :=
  OpenClaim.holds_of_wide 4 Try.f4 rfl rfl rfl rfl rfl rfl rfl ⟨rfl, rfl, rfl, rfl, rfl⟩ rfl rfl rfl rfl rfl (by kernel_rfl) Try.func4 (by kernel_rfl)
    (of_decide_eq_true (by kernel_rfl)) (by unfold Func.isWrapper; first | (rw [if_pos (by decide +kernel)]; kernel_rfl) | (rw [if_neg (by decide +kernel)]; exact ⟨rfl, rfl⟩))
    (fun os started H enc _ => diskLocks_lifted os started H enc)
end Go.Proofs.Ytnigfiljenfgjaa
