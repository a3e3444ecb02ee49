/- The given statement TableSpoilsCardSaid: bytes of a table with one byte changed, if they are read, are those of the table that is read. Conditions: none but those that the statement itself has. -/
import Derived.Test.YtecmfdfhpldmmaaGreatDoorCards
import Derived.Test.YtecmfdfhpldmmaaGreatDoorTie
import Derived.Test.YtecmfdfhpldmmaaGreatDoorTbLaid
import Derived.Test.YtecmfdfhpldmmaaGreatDoorTbO
import Derived.Test.YtecmfdfhpldmmaaGreatDoorTbOwD
import Derived.Handed
/- 'Rows.TableSpoilsCardSaid': that bytes that are read are those of the table, for all bytes of a table of which one is changed. No condition. -/
set_option maxRecDepth 100000
set_option linter.unusedVariables false
namespace Go.Proofs.YtecmfdfhpldmmaaGreatDoor
open Go.ChangeShapes Go.WideShapes Go.ChangeAt Go.RowKit Go.Sh
theorem tableSpoils_lifted (os : Os) (started : os.Started) (H : Type) (enc : TypeId × Value → H) :
    ReturnsInHanded {} Tryz.checked os 10 .any (fun w args => (Rows.tableSpoilsSpec.pre enc Tryz.prog Tryz.f10 [] false w args ∧ laidMet Tryz.prog laidL w) ∧ sizedMet enc Tryz.prog Tryz.f10 (OpenSpec.ofChange Rows.tableSpoilsSpec) false w args)
      (Rows.tableSpoilsSpec.post enc Tryz.prog Tryz.f10 false true false false) := by
  have hown : ownKnob Tryz.prog.godebug = none := by kernel_rfl
  have hlaid : laidOutB Tryz.prog = true := by kernel_rfl
  refine returnsInHanded_of_change_and (C := Tryz.checked) (X := fun w _ => laidMet Tryz.prog laidL w) (fun _ _ _ hh h => h.of_heap hh) hown started (by kernel_rfl) Tryz.func10
    (ChangeSpec.witness_at (enc := enc) (C := Tryz.checked) (os := os) (X := fun w _ => laidMet Tryz.prog laidL w) false (laidWorld os) #[.agg #[.int .i64 0, .slice none 0 0, .slice none 0 0], .int .i64 0, .int .u8 0] 8 rfl (by kernel_rfl) (by kernel_rfl) (by kernel_rfl) (by kernel_rfl) (by kernel_rfl) (laid_met os _)) ?_
  intro W base args ds gs before hval0 hW hcnd hsz _ _
  have hval : ∀ (j : Nat) t v, Tryz.f10.params[j]? = some t → args[j]? = some v → Value.okWide Tryz.prog W .any base t v := hval0
  have hW' := hW
  obtain ⟨p, q, hA0, hV, rfl, hfz, hnd⟩ := hW
  have hA : DataW.TrodAll enc Tryz.prog W 0 (fun _ => true) true Tryz.f10.params.toList args.toList ds p := hA0
  have hpar : Tryz.f10.params = #[35, 3, 5] := by kernel_rfl
  obtain ⟨rfl, rfl⟩ := trodVars_none hV
  have hz : (DataW.weightsEach Tryz.prog Tryz.f10.params.toList ds).all (· ≤ reachBytes) = true := by
    have h2 : (DataW.weightsEach Tryz.prog (Tryz.f10.params.toList ++ []) (ds ++ [])).all (· ≤ reachBytes) = true := hsz
    rw [List.append_nil, List.append_nil] at h2
    exact h2
  rw [hpar] at hA hval hz
  obtain ⟨v0, v1, v2, d0, d1, d2, p0, p1, p2, rfl, rfl, hp, h0, h1, h2⟩ := trodAll_three hA
  obtain ⟨c0, rfl, x0, r0, l0⟩ := open_agg (α := Tbl) (j := 0) opens_tbl (by kernel_rfl) (hval 0 35 v0 rfl rfl) h0 hz rfl rfl
  obtain ⟨f0, g0, rfl, r0⟩ := r0
  obtain ⟨x1, r1, l1⟩ := open_arg (α := Int) (j := 1) (opens_int (by kernel_rfl)) (by kernel_rfl) (hval 1 3 v1 rfl rfl) h1 hz rfl rfl
  obtain ⟨r1, _⟩ := r1
  obtain rfl : v1 = .int .i64 x1 := by simpa using r1
  obtain ⟨x2, r2, l2⟩ := open_arg (α := UInt8) (j := 2) (opens_u8 (by kernel_rfl)) (by kernel_rfl) (hval 2 5 v2 rfl rfl) h2 hz rfl rfl
  have r2 : [v2] = [.int .u8 ((x2.toNat : Nat) : Int)] := r2
  obtain rfl : v2 = .int .u8 ((x2.toNat : Nat) : Int) := by simpa using r2
  refine (tableSpoils_c W x0 f0 g0 r0 l0 x1 l1 x2).mono fun e W' ⟨he, hB⟩ => ?_
  subst he
  have hb : Tryz.prog.underlying 4 = some .bool := by kernel_rfl
  refine ⟨_, rfl, post_true hW' hlaid ?_ rfl rfl rfl rfl (tb := 4) (by kernel_rfl) hb hB⟩
  rw [hpar]
  have q3 : Tryz.prog.readableRec 3 = true ∧ 3 < Tryz.prog.types.size := ⟨by kernel_rfl, of_decide_eq_true (by kernel_rfl)⟩
  have q5 : Tryz.prog.readableRec 5 = true ∧ 5 < Tryz.prog.types.size := ⟨by kernel_rfl, of_decide_eq_true (by kernel_rfl)⟩
  have q35 : Tryz.prog.readableRec 35 = true ∧ 35 < Tryz.prog.types.size := ⟨by kernel_rfl, of_decide_eq_true (by kernel_rfl)⟩
  intro t ht
  simp at ht
  rcases ht with rfl | rfl | rfl
  · exact q35
  · exact q3
  · exact q5
theorem tableSpoils_row : Rows.TableSpoilsSaid :=
  OpenClaim.holds_of_wide 10 Tryz.f10 rfl rfl rfl rfl rfl rfl rfl ⟨rfl, rfl, rfl, rfl, rfl⟩ rfl rfl rfl rfl rfl (by kernel_rfl) Tryz.func10 (by kernel_rfl)
    (of_decide_eq_true (by kernel_rfl)) (by unfold Func.isWrapper; first | (rw [if_pos (by decide +kernel)]; kernel_rfl) | (rw [if_neg (by decide +kernel)]; exact ⟨rfl, rfl⟩))
    (fun os started H enc _ => tableSpoils_lifted os started H enc)
theorem tableSpoils_holds : Rows.TableSpoilsCardSaid :=
  Claim7.holds_tied_plain_at .later [] [.data, .pinned] true (true, "6d460b44cf214a2f25816489b60794dbf23fc0abfca9b62906662ee06b5ef12a") false
    tableSpoils_row (fun _ h => by cases h) (by kernel_rfl) (fun _ h => by cases h) tableSpoils_row_tie rfl ⟨rfl, rfl⟩ (by kernel_rfl) rfl
    (fun f fn hf hfn => by
      obtain rfl : f = 10 := (Option.some.inj ((show Tryz.prog.funcNamed "cabinetry/cabinetrylaw03.TableSpoils" = some 10 by kernel_rfl).symm.trans hf)).symm
      obtain rfl : fn = Tryz.f10 := (Option.some.inj (Tryz.func10.symm.trans hfn)).symm
      refine ⟨by kernel_rfl, fun j t ht => ?_⟩
      rw [show Tryz.f10.params = #[35, 3, 5] by kernel_rfl] at ht
      have q3 : Tryz.prog.wantsStandIn 3 = false := by kernel_rfl
      have q5 : Tryz.prog.wantsStandIn 5 = false := by kernel_rfl
      have q35 : Tryz.prog.wantsStandIn 35 = false := by kernel_rfl
      rcases j with _ | _ | _ | j
      · obtain rfl : t = 35 := by simpa using ht.symm
        exact q35
      · obtain rfl : t = 3 := by simpa using ht.symm
        exact q3
      · obtain rfl : t = 5 := by simpa using ht.symm
        exact q5
      · simp at ht)
    (by kernel_rfl)
end Go.Proofs.YtecmfdfhpldmmaaGreatDoor
