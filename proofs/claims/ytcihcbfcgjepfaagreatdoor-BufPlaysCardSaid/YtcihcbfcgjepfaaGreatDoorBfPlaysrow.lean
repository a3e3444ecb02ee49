/- The given statement BufPlaysCardSaid: each call of a desk tells what the reference tells, and the table is the same. Conditions: none but those that the statement itself has. -/
import Derived.Test.YtcihcbfcgjepfaaGreatDoorCards
import Derived.Test.YtcihcbfcgjepfaaGreatDoorTie
import Derived.Test.YtcihcbfcgjepfaaGreatDoorBtLaid
import Derived.Test.YtcihcbfcgjepfaaGreatDoorBtO
import Derived.Test.YtcihcbfcgjepfaaGreatDoorBfOwI
import Derived.Handed
/- 'Rows.BufPlaysCardSaid': The law on what the calls of both desks tell.. No condition. -/
set_option maxRecDepth 100000
set_option linter.unusedVariables false
namespace Go.Proofs.YtcihcbfcgjepfaaGreatDoor
open Go.ChangeShapes Go.WideShapes Go.ChangeAt Go.RowKit Go.Sh
theorem bufPlays_lifted (os : Os) (started : os.Started) (H : Type) (enc : TypeId × Value -> H) :
  ReturnsInHanded {} Tryz.checked os 6 .any (fun w args => (Rows.bufPlaysSpec.pre enc Tryz.prog Tryz.f6 [] false w args /\ laidMet Tryz.prog yWo w) /\ sizedMet enc Tryz.prog Tryz.f6 (OpenSpec.ofChange Rows.bufPlaysSpec) false w args)
   (Rows.bufPlaysSpec.post enc Tryz.prog Tryz.f6 false true false false) := by
 have hown : ownKnob Tryz.prog.godebug = none := by kernel_rfl
 have hlaid : laidOutB Tryz.prog = true := by kernel_rfl
 refine returnsInHanded_of_change_and (C := Tryz.checked) (X := fun w _ => laidMet Tryz.prog yWo w) (fun _ _ _ hh h => h.of_heap hh) hown started (by kernel_rfl) Tryz.func6
  (ChangeSpec.witness_at (enc := enc) (C := Tryz.checked) (os := os) (X := fun w _ => laidMet Tryz.prog yWo w) false (zYC os) #[.agg #[.int .i64 0, .slice none 0 0, .slice none 0 0], .slice none 0 0] 8 rfl (by kernel_rfl) (by kernel_rfl) (by kernel_rfl) (by kernel_rfl) (by kernel_rfl) (yVo os _)) ?_
 intro W base args ds gs before hval0 hW hcnd hsz _ _
 have hval : ∀ (j : Nat) t v, Tryz.f6.params[j]? = some t -> args[j]? = some v -> Value.okWide Tryz.prog W .any base t v := hval0
 have hW' := hW
 obtain ⟨p, q, hA0, hV, rfl, hfz, hnd⟩ := hW
 have hA : DataW.TrodAll enc Tryz.prog W 0 (fun _ => true) true Tryz.f6.params.toList args.toList ds p := hA0
 have hpar : Tryz.f6.params = #[25, 49] := by kernel_rfl
 obtain ⟨rfl, rfl⟩ := trodVars_none hV
 have hz : (DataW.weightsEach Tryz.prog Tryz.f6.params.toList ds).all (· <= reachBytes) = true := by
  have h2 : (DataW.weightsEach Tryz.prog (Tryz.f6.params.toList ++ []) (ds ++ [])).all (· <= reachBytes) = true := hsz
  rw [List.append_nil, List.append_nil] at h2
  exact h2
 rw [hpar] at hA hval hz
 obtain ⟨v0, v1, d0, d1, p0, p1, rfl, rfl, hp, h0, h1⟩ := trodAll_two hA
 obtain ⟨c0, rfl, x0, r0, l0⟩ := yVx (α := Tbl) (j := 0) yJ2 (by kernel_rfl) (hval 0 25 v0 rfl rfl) h0 hz rfl rfl
 obtain ⟨f0, g0, rfl, r0⟩ := r0
 obtain ⟨x1, r1, l1⟩ := yVF (α := (List Act)) (j := 1) (zJt (t := 49) (e := 51) (by kernel_rfl) (by kernel_rfl) (of_decide_eq_true (by kernel_rfl)) yWM) (by kernel_rfl) (hval 1 49 v1 rfl rfl) h1 hz rfl rfl
 obtain ⟨s1, e1, r1⟩ := r1
 obtain rfl : v1 = .slice s1.a s1.len s1.cap := by simpa using e1
 refine (yXV W x0 f0 g0 r0 l0 s1 x1 r1 l1).mono fun e W' ⟨he, hB⟩ => ?_
 subst he
 have hb : Tryz.prog.underlying 4 = some .bool := by kernel_rfl
 refine ⟨_, rfl, yJu hW' hlaid ?_ rfl rfl rfl rfl (tb := 4) (by kernel_rfl) hb hB⟩
 rw [hpar]
 have q25 : Tryz.prog.readableRec 25 = true /\ 25 < Tryz.prog.types.size := ⟨by kernel_rfl, of_decide_eq_true (by kernel_rfl)⟩
 have q49 : Tryz.prog.readableRec 49 = true /\ 49 < Tryz.prog.types.size := ⟨by kernel_rfl, of_decide_eq_true (by kernel_rfl)⟩
 intro t ht
 simp at ht
 rcases (show t = 25 ∨ t = 49 by omega) with rfl | rfl
 ·exact q25
 ·exact q49
theorem bufPlays_row : Rows.BufPlaysSaid :=
 OpenClaim.holds_of_wide 6 Tryz.f6 rfl rfl rfl rfl rfl rfl rfl ⟨rfl, rfl, rfl, rfl, rfl⟩ rfl rfl rfl rfl rfl (by kernel_rfl) Tryz.func6 (by kernel_rfl)
  (of_decide_eq_true (by kernel_rfl)) (by unfold Func.isWrapper; first | (rw [if_pos (by decide +kernel)]; kernel_rfl) | (rw [if_neg (by decide +kernel)]; exact ⟨rfl, rfl⟩))
  (fun os started H enc _ => bufPlays_lifted os started H enc)
theorem bufPlays_holds : Rows.BufPlaysCardSaid :=
 Claim7.holds_tied_plain_at .later [] [.data, .pinned] true (true, "50ecca2c2abfc3f5ea0ffb317becf0f515af161f7347639d0b99f3253fe5895a") true
  bufPlays_row (fun _ h => by cases h) (by kernel_rfl) (fun _ h => by cases h) bufPlays_row_tie rfl ⟨rfl, rfl⟩ (by kernel_rfl) rfl
  (fun f fn hf hfn => by
   obtain rfl : f = 6 := (Option.some.inj ((show Tryz.prog.funcNamed "cabinetry/cabinetrylaw17.BufPlays" = some 6 by kernel_rfl).symm.trans hf)).symm
   obtain rfl : fn = Tryz.f6 := (Option.some.inj (Tryz.func6.symm.trans hfn)).symm
   refine ⟨by kernel_rfl, fun j t ht => ?_⟩
   rw [show Tryz.f6.params = #[25, 49] by kernel_rfl] at ht
   have q25 : Tryz.prog.wantsStandIn 25 = false := by kernel_rfl
   have q49 : Tryz.prog.wantsStandIn 49 = false := by kernel_rfl
   rcases j with _ | _ | j
   ·obtain rfl : t = 25 := by simpa using ht.symm
    exact q25
   ·obtain rfl : t = 49 := by simpa using ht.symm
    exact q49
   ·simp at ht)
  (by kernel_rfl)
end Go.Proofs.YtcihcbfcgjepfaaGreatDoor
