/- The given statement TableModifiesCardSaid: a table with other fields is that of the reference. Conditions: none but those that the statement itself has. -/
import Derived.Test.YtecmfdfhpldmmaaGreatDoorCards
import Derived.Test.YtecmfdfhpldmmaaGreatDoorTie
import Derived.Test.YtecmfdfhpldmmaaGreatDoorTbLaid
import Derived.Test.YtecmfdfhpldmmaaGreatDoorTbO
import Derived.Test.YtecmfdfhpldmmaaGreatDoorTbOwE
import Derived.Handed
/- 'Rows.TableModifiesCardSaid': a table with other fields. No condition. -/
set_option maxRecDepth 100000
set_option linter.unusedVariables false
namespace Go.Proofs.YtecmfdfhpldmmaaGreatDoor
open Go.ChangeShapes Go.WideShapes Go.ChangeAt Go.RowKit Go.Sh
theorem tableModifies_lifted (os : Os) (started : os.Started) (H : Type) (enc : TypeId × Value → H) :
    ReturnsInHanded {} Tryz.checked os 11 .any (fun w args => (Rows.tableModifiesSpec.pre enc Tryz.prog Tryz.f11 [] false w args ∧ laidMet Tryz.prog laidL w) ∧ sizedMet enc Tryz.prog Tryz.f11 (OpenSpec.ofChange Rows.tableModifiesSpec) false w args)
      (Rows.tableModifiesSpec.post enc Tryz.prog Tryz.f11 false true false false) := by
  have hown : ownKnob Tryz.prog.godebug = none := by kernel_rfl
  have hlaid : laidOutB Tryz.prog = true := by kernel_rfl
  refine returnsInHanded_of_change_and (C := Tryz.checked) (X := fun w _ => laidMet Tryz.prog laidL w) (fun _ _ _ hh h => h.of_heap hh) hown started (by kernel_rfl) Tryz.func11
    (ChangeSpec.witness_at (enc := enc) (C := Tryz.checked) (os := os) (X := fun w _ => laidMet Tryz.prog laidL w) false (laidWorld os) #[.agg #[.int .i64 0, .slice none 0 0, .slice none 0 0], .slice none 0 0] 8 rfl (by kernel_rfl) (by kernel_rfl) (by kernel_rfl) (by kernel_rfl) (by kernel_rfl) (laid_met os _)) ?_
  intro W base args ds gs before hval0 hW hcnd hsz _ _
  have hval : ∀ (j : Nat) t v, Tryz.f11.params[j]? = some t → args[j]? = some v → Value.okWide Tryz.prog W .any base t v := hval0
  have hW' := hW
  obtain ⟨p, q, hA0, hV, rfl, hfz, hnd⟩ := hW
  have hA : DataW.TrodAll enc Tryz.prog W 0 (fun _ => true) true Tryz.f11.params.toList args.toList ds p := hA0
  have hpar : Tryz.f11.params = #[35, 32] := by kernel_rfl
  obtain ⟨rfl, rfl⟩ := trodVars_none hV
  have hz : (DataW.weightsEach Tryz.prog Tryz.f11.params.toList ds).all (· ≤ reachBytes) = true := by
    have h2 : (DataW.weightsEach Tryz.prog (Tryz.f11.params.toList ++ []) (ds ++ [])).all (· ≤ reachBytes) = true := hsz
    rw [List.append_nil, List.append_nil] at h2
    exact h2
  rw [hpar] at hA hval hz
  obtain ⟨v0, v1, d0, d1, p0, p1, rfl, rfl, hp, h0, h1⟩ := trodAll_two hA
  obtain ⟨c0, rfl, x0, r0, l0⟩ := open_agg (α := Tbl) (j := 0) opens_tbl (by kernel_rfl) (hval 0 35 v0 rfl rfl) h0 hz rfl rfl
  obtain ⟨f0, g0, rfl, r0⟩ := r0
  obtain ⟨x1, r1, l1⟩ := open_arg (α := (List Fld)) (j := 1) opens_flds (by kernel_rfl) (hval 1 32 v1 rfl rfl) h1 hz rfl rfl
  obtain ⟨s1, e1, r1⟩ := r1
  obtain rfl : v1 = .slice s1.a s1.len s1.cap := by simpa using e1
  refine (tableModifies_c W x0 f0 g0 r0 l0 s1 x1 r1 l1).mono fun e W' ⟨he, hB⟩ => ?_
  subst he
  have hb : Tryz.prog.underlying 4 = some .bool := by kernel_rfl
  refine ⟨_, rfl, post_true hW' hlaid ?_ rfl rfl rfl rfl (tb := 4) (by kernel_rfl) hb hB⟩
  rw [hpar]
  have q32 : Tryz.prog.readableRec 32 = true ∧ 32 < Tryz.prog.types.size := ⟨by kernel_rfl, of_decide_eq_true (by kernel_rfl)⟩
  have q35 : Tryz.prog.readableRec 35 = true ∧ 35 < Tryz.prog.types.size := ⟨by kernel_rfl, of_decide_eq_true (by kernel_rfl)⟩
  intro t ht
  simp at ht
  rcases ht with rfl | rfl
  · exact q35
  · exact q32
theorem tableModifies_row : Rows.TableModifiesSaid :=
  OpenClaim.holds_of_wide 11 Tryz.f11 rfl rfl rfl rfl rfl rfl rfl ⟨rfl, rfl, rfl, rfl, rfl⟩ rfl rfl rfl rfl rfl (by kernel_rfl) Tryz.func11 (by kernel_rfl)
    (of_decide_eq_true (by kernel_rfl)) (by unfold Func.isWrapper; first | (rw [if_pos (by decide +kernel)]; kernel_rfl) | (rw [if_neg (by decide +kernel)]; exact ⟨rfl, rfl⟩))
    (fun os started H enc _ => tableModifies_lifted os started H enc)
theorem tableModifies_holds : Rows.TableModifiesCardSaid :=
  Claim7.holds_tied_plain_at .later [] [.data, .pinned] true (true, "6d460b44cf214a2f25816489b60794dbf23fc0abfca9b62906662ee06b5ef12a") false
    tableModifies_row (fun _ h => by cases h) (by kernel_rfl) (fun _ h => by cases h) tableModifies_row_tie rfl ⟨rfl, rfl⟩ (by kernel_rfl) rfl
    (fun f fn hf hfn => by
      obtain rfl : f = 11 := (Option.some.inj ((show Tryz.prog.funcNamed "cabinetry/cabinetrylaw03.TableModifies" = some 11 by kernel_rfl).symm.trans hf)).symm
      obtain rfl : fn = Tryz.f11 := (Option.some.inj (Tryz.func11.symm.trans hfn)).symm
      refine ⟨by kernel_rfl, fun j t ht => ?_⟩
      rw [show Tryz.f11.params = #[35, 32] by kernel_rfl] at ht
      have q32 : Tryz.prog.wantsStandIn 32 = false := by kernel_rfl
      have q35 : Tryz.prog.wantsStandIn 35 = false := by kernel_rfl
      rcases j with _ | _ | j
      · obtain rfl : t = 35 := by simpa using ht.symm
        exact q35
      · obtain rfl : t = 32 := by simpa using ht.symm
        exact q32
      · simp at ht)
    (by kernel_rfl)
end Go.Proofs.YtecmfdfhpldmmaaGreatDoor
