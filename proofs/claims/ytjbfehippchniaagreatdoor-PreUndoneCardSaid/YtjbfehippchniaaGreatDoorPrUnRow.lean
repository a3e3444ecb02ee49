/- The given statement PreUndoneCardSaid: a defined name that does not stand in a line, or that stands for itself, changes nothing there. Conditions: none but those that the statement itself has. -/
import Derived.Test.YtjbfehippchniaaGreatDoorCards
import Derived.Test.YtjbfehippchniaaGreatDoorTie
import Derived.Test.YtjbfehippchniaaGreatDoorPrRw
import Derived.Test.YtjbfehippchniaaGreatDoorPrOwF
/- 'Rows.PreUndoneCardSaid': a name that is not in a line changes nothing there, and one that is defined as itself neither. No condition. -/
set_option maxRecDepth 100000
set_option linter.unusedVariables false
namespace Go.Proofs.YtjbfehippchniaaGreatDoor
open Go.ChangeShapes Go.WideShapes Go.ChangeAt Go.RowKit Go.Sh Go.Sh.Lx
theorem preUndone_lifted (os : Os) (started : os.Started) (H : Type) (enc : TypeId × Value → H) :
    ReturnsInHanded {} Tryz.checked os 3 .any (fun w args => (Rows.preUndoneSpec.pre enc Tryz.prog Tryz.f3 [] false w args ∧ laidMet Tryz.prog laidL w) ∧ sizedMet enc Tryz.prog Tryz.f3 (OpenSpec.ofChange Rows.preUndoneSpec) false w args)
      (Rows.preUndoneSpec.post enc Tryz.prog Tryz.f3 false true false false) := by
  have hown : ownKnob Tryz.prog.godebug = none := by kernel_rfl
  have hlaid : laidOutB Tryz.prog = true := by kernel_rfl
  refine row_shaped (X := fun w => laidMet Tryz.prog laidL w) (fun _ _ hh h => h.of_heap hh) hown started (by kernel_rfl) Tryz.func3
    (ChangeSpec.witness_shaped (enc := enc) (C := Tryz.checked) (os := os) (X := fun w _ => laidMet Tryz.prog laidL w) false (laidWorld os) #[.string ⟨#[]⟩, .string ⟨#[]⟩] 8 rfl (World.shaped_of_RefB (by kernel_rfl) (by kernel_rfl)) (by kernel_rfl) (by kernel_rfl) (by kernel_rfl) (laid_met os _)) ?_
  intro W base args ds gs before hval0 hW hsz hlay hsh
  have hval : ∀ (j : Nat) t v, Tryz.f3.params[j]? = some t → args[j]? = some v → Value.okWide Tryz.prog W .any base t v := hval0
  have hW' := hW
  obtain ⟨p, q, hA0, hV, rfl, hfz, hnd⟩ := hW
  have hA : DataW.TrodAll enc Tryz.prog W 0 (fun _ => true) true Tryz.f3.params.toList args.toList ds p := hA0
  have hpar : Tryz.f3.params = #[9, 9] := by kernel_rfl
  obtain ⟨rfl, rfl⟩ := trodVars_none hV
  have hz : (DataW.weightsEach Tryz.prog Tryz.f3.params.toList ds).all (· ≤ reachBytes) = true := by
    have h2 : (DataW.weightsEach Tryz.prog (Tryz.f3.params.toList ++ []) (ds ++ [])).all (· ≤ reachBytes) = true := hsz
    rw [List.append_nil, List.append_nil] at h2
    exact h2
  rw [hpar] at hA hval hz
  obtain ⟨v0, v1, d0, d1, p0, p1, rfl, rfl, hp, h0, h1⟩ := trodAll_two hA
  obtain ⟨x0, r0, l0⟩ := open_arg (α := ByteArray) (j := 0) (opens_str (by kernel_rfl)) (by kernel_rfl) (hval 0 9 v0 rfl rfl) h0 hz rfl rfl
  have r0 : [v0] = [.string x0] := r0
  obtain rfl : v0 = .string x0 := by simpa using r0
  obtain ⟨x1, r1, l1⟩ := open_arg (α := ByteArray) (j := 1) (opens_str (by kernel_rfl)) (by kernel_rfl) (hval 1 9 v1 rfl rfl) h1 hz rfl rfl
  have r1 : [v1] = [.string x1] := r1
  obtain rfl : v1 = .string x1 := by simpa using r1
  refine (undone_c known_c (laid_of hlay) (maxL_of hsh) x0 x1 l0 l1).mono fun e W' ⟨he, hB⟩ => ?_
  subst he
  have hb : Tryz.prog.underlying 4 = some .bool := by kernel_rfl
  refine ⟨_, rfl, post_true hW' hlaid ?_ rfl rfl rfl rfl (tb := 4) (by kernel_rfl) hb hB⟩
  rw [hpar]
  have q9 : Tryz.prog.readableRec 9 = true ∧ 9 < Tryz.prog.types.size := ⟨by kernel_rfl, of_decide_eq_true (by kernel_rfl)⟩
  intro t ht
  simp at ht
  obtain rfl : t = 9 := by omega
  exact q9
theorem preUndone_row : Rows.PreUndoneSaid :=
  OpenClaim.holds_of_wide 3 Tryz.f3 rfl rfl rfl rfl rfl rfl rfl ⟨rfl, rfl, rfl, rfl, rfl⟩ rfl rfl rfl rfl rfl (by kernel_rfl) Tryz.func3 (by kernel_rfl)
    (of_decide_eq_true (by kernel_rfl)) (by unfold Func.isWrapper; first | (rw [if_pos (by decide +kernel)]; kernel_rfl) | (rw [if_neg (by decide +kernel)]; exact ⟨rfl, rfl⟩))
    (fun os started H enc _ => preUndone_lifted os started H enc)
theorem preUndone_holds : Rows.PreUndoneCardSaid :=
  Claim7.holds_tied_plain_at .later [] [.data, .pinned, .pinned] true (true, "a60000680e0262a30ddd2a70009de127dfad4d1b17acd8d1b23778b49617e8a7") false
    preUndone_row (fun _ h => by cases h) (by kernel_rfl) (fun _ h => by cases h) preUndone_row_tie rfl ⟨rfl, rfl⟩ (by kernel_rfl) rfl
    (fun f fn hf hfn => by
      obtain rfl : f = 3 := (Option.some.inj ((show Tryz.prog.funcNamed "cabinetry/cabinetrylaw07.PreUndone" = some 3 by kernel_rfl).symm.trans hf)).symm
      obtain rfl : fn = Tryz.f3 := (Option.some.inj (Tryz.func3.symm.trans hfn)).symm
      refine ⟨by kernel_rfl, fun j t ht => ?_⟩
      rw [show Tryz.f3.params = #[9, 9] by kernel_rfl] at ht
      have q9 : Tryz.prog.wantsStandIn 9 = false := by kernel_rfl
      rcases j with _ | _ | j
      · obtain rfl : t = 9 := by simpa using ht.symm
        exact q9
      · obtain rfl : t = 9 := by simpa using ht.symm
        exact q9
      · simp at ht)
    (by kernel_rfl)
end Go.Proofs.YtjbfehippchniaaGreatDoor
