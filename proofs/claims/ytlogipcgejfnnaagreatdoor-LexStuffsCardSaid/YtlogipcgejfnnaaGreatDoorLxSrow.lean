/- The given statement LexStuffsCardSaid: how many tokens stay when a part of a source is replaced is what the reference says. Conditions: none but those that the statement itself has. -/
import Derived.Test.YtlogipcgejfnnaaGreatDoorCards
import Derived.Test.YtlogipcgejfnnaaGreatDoorTie
import Derived.Test.YtlogipcgejfnnaaGreatDoorLxLaid
import Derived.Test.YtlogipcgejfnnaaGreatDoorLxOp
import Derived.Test.YtlogipcgejfnnaaGreatDoorLxOwD
import Derived.Handed
import Derived.LaidLaws
/- 'Rows.LexStuffsCardSaid': how many tokens stay when a part of a source is replaced. No condition. -/
set_option maxRecDepth 100000
set_option linter.unusedVariables false
namespace Go.Proofs.YtlogipcgejfnnaaGreatDoor
open Go.ChangeShapes Go.WideShapes Go.ChangeAt Go.RowKit Go.Sh Go.Sh.Lx
theorem lexStuffs_lifted (os : Os) (started : os.Started) (H : Type) (enc : TypeId × Value → H) :
    ReturnsInHanded {} Tryz.checked os 6 .any (fun w args => (Rows.lexStuffsSpec.pre enc Tryz.prog Tryz.f6 [] false w args ∧ laidMet Tryz.prog laidL w) ∧ sizedMet enc Tryz.prog Tryz.f6 (OpenSpec.ofChange Rows.lexStuffsSpec) false w args)
      (Rows.lexStuffsSpec.post enc Tryz.prog Tryz.f6 false true false false) := by
  have hown : ownKnob Tryz.prog.godebug = none := by kernel_rfl
  have hlaid : laidOutB Tryz.prog = true := by kernel_rfl
  refine returnsInHanded_of_change_and (C := Tryz.checked) (X := fun w _ => laidMet Tryz.prog laidL w) (fun _ _ _ hh h => h.of_heap hh) hown started (by kernel_rfl) Tryz.func6
    (ChangeSpec.witness_shaped (enc := enc) (C := Tryz.checked) (os := os) (X := fun w _ => laidMet Tryz.prog laidL w) false (laidWorld os) #[.string ⟨#[]⟩, .string ⟨#[]⟩, .agg #[.int .i64 0, .int .i64 0]] 8 rfl (World.shaped_of_RefB (by kernel_rfl) (by kernel_rfl)) (by kernel_rfl) (by kernel_rfl) (by kernel_rfl) (laid_met os _)) ?_
  intro W base args ds gs before hval0 hW hcnd hsz hlay _
  have hval : ∀ (j : Nat) t v, Tryz.f6.params[j]? = some t → args[j]? = some v → Value.okWide Tryz.prog W .any base t v := hval0
  have hW' := hW
  obtain ⟨p, q, hA0, hV, rfl, hfz, hnd⟩ := hW
  have hA : DataW.TrodAll enc Tryz.prog W 0 (fun _ => true) true Tryz.f6.params.toList args.toList ds p := hA0
  have hpar : Tryz.f6.params = #[9, 9, 36] := by kernel_rfl
  obtain ⟨rfl, rfl⟩ := trodVars_none hV
  have hz : (DataW.weightsEach Tryz.prog Tryz.f6.params.toList ds).all (· ≤ reachBytes) = true := by
    have h2 : (DataW.weightsEach Tryz.prog (Tryz.f6.params.toList ++ []) (ds ++ [])).all (· ≤ reachBytes) = true := hsz
    rw [List.append_nil, List.append_nil] at h2
    exact h2
  rw [hpar] at hA hval hz
  obtain ⟨v0, v1, v2, d0, d1, d2, p0, p1, p2, rfl, rfl, hp, h0, h1, h2⟩ := trodAll_three hA
  obtain ⟨x0, r0, l0⟩ := open_arg (α := ByteArray) (j := 0) (opens_str (by kernel_rfl)) (by kernel_rfl) (hval 0 9 v0 rfl rfl) h0 hz rfl rfl
  have r0 : [v0] = [.string x0] := r0
  obtain rfl : v0 = .string x0 := by simpa using r0
  obtain ⟨x1, r1, l1⟩ := open_arg (α := ByteArray) (j := 1) (opens_str (by kernel_rfl)) (by kernel_rfl) (hval 1 9 v1 rfl rfl) h1 hz rfl rfl
  have r1 : [v1] = [.string x1] := r1
  obtain rfl : v1 = .string x1 := by simpa using r1
  obtain ⟨c2, rfl, x2, r2, l2⟩ := open_agg (α := (Int × Int)) (j := 2) opens_two (by kernel_rfl) (hval 2 36 v2 rfl rfl) h2 hz rfl rfl
  obtain rfl : c2 = _ := r2
  refine (stuffs_c W (laid_of hlay) x0 l0 x1 l1 x2 l2).mono fun e W' ⟨he, hB⟩ => ?_
  subst he
  have hb : Tryz.prog.underlying 4 = some .bool := by kernel_rfl
  refine ⟨_, rfl, post_true hW' hlaid ?_ rfl rfl rfl rfl (tb := 4) (by kernel_rfl) hb hB⟩
  rw [hpar]
  have q9 : Tryz.prog.readableRec 9 = true ∧ 9 < Tryz.prog.types.size := ⟨by kernel_rfl, of_decide_eq_true (by kernel_rfl)⟩
  have q36 : Tryz.prog.readableRec 36 = true ∧ 36 < Tryz.prog.types.size := ⟨by kernel_rfl, of_decide_eq_true (by kernel_rfl)⟩
  intro t ht
  simp at ht
  rcases ht with rfl | rfl
  · exact q9
  · exact q36
theorem lexStuffs_row : Rows.LexStuffsSaid :=
  OpenClaim.holds_of_wide 6 Tryz.f6 rfl rfl rfl rfl rfl rfl rfl ⟨rfl, rfl, rfl, rfl, rfl⟩ rfl rfl rfl rfl rfl (by kernel_rfl) Tryz.func6 (by kernel_rfl)
    (of_decide_eq_true (by kernel_rfl)) (by unfold Func.isWrapper; first | (rw [if_pos (by decide +kernel)]; kernel_rfl) | (rw [if_neg (by decide +kernel)]; exact ⟨rfl, rfl⟩))
    (fun os started H enc _ => lexStuffs_lifted os started H enc)
theorem lexStuffs_holds : Rows.LexStuffsCardSaid :=
  Claim7.holds_tied_plain_at .later [] [.data, .pinned, .pinned] true (true, "3a65b1568720e77efdfb36bf2d9c4ef576db4f9b94f6775e14aecf870d1a4a68") false
    lexStuffs_row (fun _ h => by cases h) (by kernel_rfl) (fun _ h => by cases h) lexStuffs_row_tie rfl ⟨rfl, rfl⟩ (by kernel_rfl) rfl
    (fun f fn hf hfn => by
      obtain rfl : f = 6 := (Option.some.inj ((show Tryz.prog.funcNamed "cabinetry/cabinetrylaw05.LexStuffs" = some 6 by kernel_rfl).symm.trans hf)).symm
      obtain rfl : fn = Tryz.f6 := (Option.some.inj (Tryz.func6.symm.trans hfn)).symm
      refine ⟨by kernel_rfl, fun j t ht => ?_⟩
      rw [show Tryz.f6.params = #[9, 9, 36] by kernel_rfl] at ht
      have q9 : Tryz.prog.wantsStandIn 9 = false := by kernel_rfl
      have q36 : Tryz.prog.wantsStandIn 36 = false := by kernel_rfl
      rcases j with _ | _ | _ | j
      · obtain rfl : t = 9 := by simpa using ht.symm
        exact q9
      · obtain rfl : t = 9 := by simpa using ht.symm
        exact q9
      · obtain rfl : t = 36 := by simpa using ht.symm
        exact q36
      · simp at ht)
    (by kernel_rfl)
end Go.Proofs.YtlogipcgejfnnaaGreatDoor
