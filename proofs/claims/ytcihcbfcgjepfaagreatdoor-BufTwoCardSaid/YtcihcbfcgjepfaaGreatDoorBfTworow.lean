/- The given statement BufTwoCardSaid: two users who change different fields of one record both keep their changes. Conditions: none but those that the statement itself has. -/
import Derived.Test.YtcihcbfcgjepfaaGreatDoorCards
import Derived.Test.YtcihcbfcgjepfaaGreatDoorTie
import Derived.Test.YtcihcbfcgjepfaaGreatDoorBtLaid
import Derived.Test.YtcihcbfcgjepfaaGreatDoorBtO
import Derived.Test.YtcihcbfcgjepfaaGreatDoorBfOwF
import Derived.Handed
/- 'Rows.BufTwoCardSaid': changes of two users to different fields of a record are both kept. No condition. -/
set_option maxRecDepth 100000
set_option linter.unusedVariables false
namespace Go.Proofs.YtcihcbfcgjepfaaGreatDoor
open Go.ChangeShapes Go.WideShapes Go.ChangeAt Go.RowKit Go.Sh
theorem bufTwo_lifted (os : Os) (started : os.Started) (H : Type) (enc : TypeId × Value → H) :
    ReturnsInHanded {} Tryz.checked os 3 .any (fun w args => (Rows.bufTwoSpec.pre enc Tryz.prog Tryz.f3 [] false w args ∧ laidMet Tryz.prog laidL w) ∧ sizedMet enc Tryz.prog Tryz.f3 (OpenSpec.ofChange Rows.bufTwoSpec) false w args)
      (Rows.bufTwoSpec.post enc Tryz.prog Tryz.f3 false true false false) := by
  have hown : ownKnob Tryz.prog.godebug = none := by kernel_rfl
  have hlaid : laidOutB Tryz.prog = true := by kernel_rfl
  refine returnsInHanded_of_change_and (C := Tryz.checked) (X := fun w _ => laidMet Tryz.prog laidL w) (fun _ _ _ hh h => h.of_heap hh) hown started (by kernel_rfl) Tryz.func3
    (ChangeSpec.witness_at (enc := enc) (C := Tryz.checked) (os := os) (X := fun w _ => laidMet Tryz.prog laidL w) false (laidWorld os) #[.agg #[.int .i64 0, .slice none 0 0, .slice none 0 0], .agg #[.int .i64 0, .int .i64 0, .int .i64 0], .agg #[.int .i64 0, .int .i64 0, .string ⟨#[]⟩, .int .i64 0, .int .i64 0, .string ⟨#[]⟩]] 8 rfl (by kernel_rfl) (by kernel_rfl) (by kernel_rfl) (by kernel_rfl) (by kernel_rfl) (laid_met os _)) ?_
  intro W base args ds gs before hval0 hW hcnd hsz _ _
  have hval : ∀ (j : Nat) t v, Tryz.f3.params[j]? = some t → args[j]? = some v → Value.okWide Tryz.prog W .any base t v := hval0
  have hW' := hW
  obtain ⟨p, q, hA0, hV, rfl, hfz, hnd⟩ := hW
  have hA : DataW.TrodAll enc Tryz.prog W 0 (fun _ => true) true Tryz.f3.params.toList args.toList ds p := hA0
  have hpar : Tryz.f3.params = #[25, 26, 29] := by kernel_rfl
  obtain ⟨rfl, rfl⟩ := trodVars_none hV
  have hz : (DataW.weightsEach Tryz.prog Tryz.f3.params.toList ds).all (· ≤ reachBytes) = true := by
    have h2 : (DataW.weightsEach Tryz.prog (Tryz.f3.params.toList ++ []) (ds ++ [])).all (· ≤ reachBytes) = true := hsz
    rw [List.append_nil, List.append_nil] at h2
    exact h2
  rw [hpar] at hA hval hz
  obtain ⟨v0, v1, v2, d0, d1, d2, p0, p1, p2, rfl, rfl, hp, h0, h1, h2⟩ := trodAll_three hA
  obtain ⟨c0, rfl, x0, r0, l0⟩ := open_agg (α := Tbl) (j := 0) opens_tbl (by kernel_rfl) (hval 0 25 v0 rfl rfl) h0 hz rfl rfl
  obtain ⟨f0, g0, rfl, r0⟩ := r0
  obtain ⟨c1, rfl, x1, r1, l1⟩ := open_agg (α := I3) (j := 1) opens_i3 (by kernel_rfl) (hval 1 26 v1 rfl rfl) h1 hz rfl rfl
  replace r1 : c1 = _ := r1
  subst r1
  obtain ⟨c2, rfl, x2, r2, l2⟩ := open_agg (α := V2) (j := 2) opens_v2 (by kernel_rfl) (hval 2 29 v2 rfl rfl) h2 hz rfl rfl
  replace r2 : c2 = _ := r2
  subst r2
  refine (bufTwo_row_c W x0 f0 g0 r0 l0 x1 l1 x2 l2).mono fun e W' ⟨he, hB⟩ => ?_
  subst he
  have hb : Tryz.prog.underlying 4 = some .bool := by kernel_rfl
  refine ⟨_, rfl, post_true hW' hlaid ?_ rfl rfl rfl rfl (tb := 4) (by kernel_rfl) hb hB⟩
  rw [hpar]
  have q25 : Tryz.prog.readableRec 25 = true ∧ 25 < Tryz.prog.types.size := ⟨by kernel_rfl, of_decide_eq_true (by kernel_rfl)⟩
  have q26 : Tryz.prog.readableRec 26 = true ∧ 26 < Tryz.prog.types.size := ⟨by kernel_rfl, of_decide_eq_true (by kernel_rfl)⟩
  have q29 : Tryz.prog.readableRec 29 = true ∧ 29 < Tryz.prog.types.size := ⟨by kernel_rfl, of_decide_eq_true (by kernel_rfl)⟩
  intro t ht
  simp at ht
  rcases (show t = 25 ∨ t = 26 ∨ t = 29 by omega) with rfl | rfl | rfl
  · exact q25
  · exact q26
  · exact q29
theorem bufTwo_row : Rows.BufTwoSaid :=
  OpenClaim.holds_of_wide 3 Tryz.f3 rfl rfl rfl rfl rfl rfl rfl ⟨rfl, rfl, rfl, rfl, rfl⟩ rfl rfl rfl rfl rfl (by kernel_rfl) Tryz.func3 (by kernel_rfl)
    (of_decide_eq_true (by kernel_rfl)) (by unfold Func.isWrapper; first | (rw [if_pos (by decide +kernel)]; kernel_rfl) | (rw [if_neg (by decide +kernel)]; exact ⟨rfl, rfl⟩))
    (fun os started H enc _ => bufTwo_lifted os started H enc)
theorem bufTwo_holds : Rows.BufTwoCardSaid :=
  Claim7.holds_tied_plain_at .later [] [.data, .pinned] true (true, "50ecca2c2abfc3f5ea0ffb317becf0f515af161f7347639d0b99f3253fe5895a") true
    bufTwo_row (fun _ h => by cases h) (by kernel_rfl) (fun _ h => by cases h) bufTwo_row_tie rfl ⟨rfl, rfl⟩ (by kernel_rfl) rfl
    (fun f fn hf hfn => by
      obtain rfl : f = 3 := (Option.some.inj ((show Tryz.prog.funcNamed "cabinetry/cabinetrylaw17.BufTwo" = some 3 by kernel_rfl).symm.trans hf)).symm
      obtain rfl : fn = Tryz.f3 := (Option.some.inj (Tryz.func3.symm.trans hfn)).symm
      refine ⟨by kernel_rfl, fun j t ht => ?_⟩
      rw [show Tryz.f3.params = #[25, 26, 29] by kernel_rfl] at ht
      have q25 : Tryz.prog.wantsStandIn 25 = false := by kernel_rfl
      have q26 : Tryz.prog.wantsStandIn 26 = false := by kernel_rfl
      have q29 : Tryz.prog.wantsStandIn 29 = false := by kernel_rfl
      rcases j with _ | _ | _ | j
      · obtain rfl : t = 25 := by simpa using ht.symm
        exact q25
      · obtain rfl : t = 26 := by simpa using ht.symm
        exact q26
      · obtain rfl : t = 29 := by simpa using ht.symm
        exact q29
      · simp at ht)
    (by kernel_rfl)
end Go.Proofs.YtcihcbfcgjepfaaGreatDoor
