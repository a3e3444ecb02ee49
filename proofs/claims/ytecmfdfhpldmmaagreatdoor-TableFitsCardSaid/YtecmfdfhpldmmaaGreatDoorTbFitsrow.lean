/- The given statement TableFitsCardSaid: what a value becomes in a field is what the reference says. Conditions: none but those that the statement itself has. -/
import Derived.Test.YtecmfdfhpldmmaaGreatDoorCards
import Derived.Test.YtecmfdfhpldmmaaGreatDoorTie
import Derived.Test.YtecmfdfhpldmmaaGreatDoorTbLaid
import Derived.Test.YtecmfdfhpldmmaaGreatDoorTbO
import Derived.Test.YtecmfdfhpldmmaaGreatDoorTbT
import Derived.Handed
/- 'Rows.TableFitsCardSaid': what a value becomes in a field, for all of them. No condition. -/
set_option maxRecDepth 100000
set_option linter.unusedVariables false
namespace Go.Proofs.YtecmfdfhpldmmaaGreatDoor
open Go.ChangeShapes Go.WideShapes Go.ChangeAt Go.RowKit Go.Sh

theorem tableFits_lifted (os : Os) (started : os.Started) (H : Type) (enc : TypeId × Value → H) :
    ReturnsInHanded {} Tryz.checked os 3 .any (fun w args => (Rows.tableFitsSpec.pre enc Tryz.prog Tryz.f3 [] false w args ∧ laidMet Tryz.prog laidL w) ∧ sizedMet enc Tryz.prog Tryz.f3 (OpenSpec.ofChange Rows.tableFitsSpec) false w args)
      (Rows.tableFitsSpec.post enc Tryz.prog Tryz.f3 false true false false) := by
  have hown : ownKnob Tryz.prog.godebug = none := by kernel_rfl
  have hlaid : laidOutB Tryz.prog = true := by kernel_rfl
  refine returnsInHanded_of_change_and (C := Tryz.checked) (X := fun w _ => laidMet Tryz.prog laidL w) (fun _ _ _ hh h => h.of_heap hh) hown started (by kernel_rfl) Tryz.func3
    (ChangeSpec.witness_at (enc := enc) (C := Tryz.checked) (os := os) (X := fun w _ => laidMet Tryz.prog laidL w) false (laidWorld os) #[.agg #[.string ⟨#[]⟩, .int .i64 0, .int .i64 0, .bool false], .int .i64 0, .agg #[.int .i64 0, .int .i64 0, .string ⟨#[]⟩]] 8 rfl (by kernel_rfl) (by kernel_rfl) (by kernel_rfl) (by kernel_rfl) (by kernel_rfl) (laid_met os _)) ?_
  intro W base args ds gs before hval0 hW hcnd hsz _ _
  have hval : ∀ (j : Nat) t v, Tryz.f3.params[j]? = some t → args[j]? = some v → Value.okWide Tryz.prog W .any base t v := hval0
  have hW' := hW
  obtain ⟨p, q, hA0, hV, rfl, hfz, hnd⟩ := hW
  have hA : DataW.TrodAll enc Tryz.prog W 0 (fun _ => true) true Tryz.f3.params.toList args.toList ds p := hA0
  have hpar : Tryz.f3.params = #[23, 3, 25] := by kernel_rfl
  obtain ⟨rfl, rfl⟩ := trodVars_none hV
  have hz : (DataW.weightsEach Tryz.prog Tryz.f3.params.toList ds).all (· ≤ reachBytes) = true := by
    have h2 : (DataW.weightsEach Tryz.prog (Tryz.f3.params.toList ++ []) (ds ++ [])).all (· ≤ reachBytes) = true := hsz
    rw [List.append_nil, List.append_nil] at h2
    exact h2
  rw [hpar] at hA hval hz
  obtain ⟨v0, v1, v2, d0, d1, d2, p0, p1, p2, rfl, rfl, hp, h0, h1, h2⟩ := trodAll_three hA
  obtain ⟨c0, rfl, x0, r0, l0⟩ := open_agg (α := Fld) (j := 0) opens_fld (by kernel_rfl) (hval 0 23 v0 rfl rfl) h0 hz rfl rfl
  obtain ⟨rfl, _⟩ := r0
  obtain ⟨x1, r1, l1⟩ := open_arg (α := Int) (j := 1) (opens_int (by kernel_rfl)) (by kernel_rfl) (hval 1 3 v1 rfl rfl) h1 hz rfl rfl
  obtain ⟨r1, _⟩ := r1
  obtain rfl : v1 = .int .i64 x1 := by simpa using r1
  obtain ⟨c2, rfl, x2, r2, l2⟩ := open_agg (α := Val) (j := 2) opens_val (by kernel_rfl) (hval 2 25 v2 rfl rfl) h2 hz rfl rfl
  obtain ⟨rfl, _⟩ := r2
  refine (tableFits_c W x0 l0 x1 l1 x2 l2).mono fun e W' ⟨he, hB⟩ => ?_
  subst he
  have hb : Tryz.prog.underlying 4 = some .bool := by kernel_rfl
  refine ⟨_, rfl, post_true hW' hlaid ?_ rfl rfl rfl rfl (tb := 4) (by kernel_rfl) hb hB⟩
  rw [hpar]
  have q3 : Tryz.prog.readableRec 3 = true ∧ 3 < Tryz.prog.types.size := ⟨by kernel_rfl, of_decide_eq_true (by kernel_rfl)⟩
  have q23 : Tryz.prog.readableRec 23 = true ∧ 23 < Tryz.prog.types.size := ⟨by kernel_rfl, of_decide_eq_true (by kernel_rfl)⟩
  have q25 : Tryz.prog.readableRec 25 = true ∧ 25 < Tryz.prog.types.size := ⟨by kernel_rfl, of_decide_eq_true (by kernel_rfl)⟩
  intro t ht
  simp at ht
  rcases ht with rfl | rfl | rfl
  · exact q23
  · exact q3
  · exact q25

theorem tableFits_row : Rows.TableFitsSaid :=
  OpenClaim.holds_of_wide 3 Tryz.f3 rfl rfl rfl rfl rfl rfl rfl ⟨rfl, rfl, rfl, rfl, rfl⟩ rfl rfl rfl rfl rfl (by kernel_rfl) Tryz.func3 (by kernel_rfl)
    (of_decide_eq_true (by kernel_rfl)) (by unfold Func.isWrapper; first | (rw [if_pos (by decide +kernel)]; kernel_rfl) | (rw [if_neg (by decide +kernel)]; exact ⟨rfl, rfl⟩))
    (fun os started H enc _ => tableFits_lifted os started H enc)

theorem tableFits_holds : Rows.TableFitsCardSaid :=
  Claim7.holds_tied_plain_at .later [] [.data, .pinned] true (true, "6d460b44cf214a2f25816489b60794dbf23fc0abfca9b62906662ee06b5ef12a") false
    tableFits_row (fun _ h => by cases h) (by kernel_rfl) (fun _ h => by cases h) tableFits_row_tie rfl ⟨rfl, rfl⟩ (by kernel_rfl) rfl
    (fun f fn hf hfn => by
      obtain rfl : f = 3 := (Option.some.inj ((show Tryz.prog.funcNamed "cabinetry/cabinetrylaw03.TableFits" = some 3 by kernel_rfl).symm.trans hf)).symm
      obtain rfl : fn = Tryz.f3 := (Option.some.inj (Tryz.func3.symm.trans hfn)).symm
      refine ⟨by kernel_rfl, fun j t ht => ?_⟩
      rw [show Tryz.f3.params = #[23, 3, 25] by kernel_rfl] at ht
      have q3 : Tryz.prog.wantsStandIn 3 = false := by kernel_rfl
      have q23 : Tryz.prog.wantsStandIn 23 = false := by kernel_rfl
      have q25 : Tryz.prog.wantsStandIn 25 = false := by kernel_rfl
      rcases j with _ | _ | _ | j
      · obtain rfl : t = 23 := by simpa using ht.symm
        exact q23
      · obtain rfl : t = 3 := by simpa using ht.symm
        exact q3
      · obtain rfl : t = 25 := by simpa using ht.symm
        exact q25
      · simp at ht)
    (by kernel_rfl)
end Go.Proofs.YtecmfdfhpldmmaaGreatDoor
