/- The given statement BufStoresCardSaid: changes that are stored at once make the table that direct ones make, and changes that are reverted make none. Conditions: none but those that the statement itself has. -/
import Derived.Test.YtcihcbfcgjepfaaGreatDoorCards
import Derived.Test.YtcihcbfcgjepfaaGreatDoorTie
import Derived.Test.YtcihcbfcgjepfaaGreatDoorBtLaid
import Derived.Test.YtcihcbfcgjepfaaGreatDoorBtO
import Derived.Test.YtcihcbfcgjepfaaGreatDoorBfOwF
import Derived.Handed
/- 'Rows.BufStoresCardSaid': The law on changes that are stored at once.. No condition. -/
set_option maxRecDepth 100000
set_option linter.unusedVariables false
namespace Go.Proofs.YtcihcbfcgjepfaaGreatDoor
open Go.ChangeShapes Go.WideShapes Go.ChangeAt Go.RowKit Go.Sh
theorem bufStores_lifted (os : Os) (started : os.Started) (H : Type) (enc : TypeId × Value -> H) :
  ReturnsInHanded {} Tryz.checked os 4 .any (fun w args => (Rows.bufStoresSpec.pre enc Tryz.prog Tryz.f4 [] false w args /\ laidMet Tryz.prog yZT w) /\ sizedMet enc Tryz.prog Tryz.f4 (OpenSpec.ofChange Rows.bufStoresSpec) false w args)
   (Rows.bufStoresSpec.post enc Tryz.prog Tryz.f4 false true false false) := by
 have hown : ownKnob Tryz.prog.godebug = none := by kernel_rfl
 have hlaid : laidOutB Tryz.prog = true := by kernel_rfl
 refine returnsInHanded_of_change_and (C := Tryz.checked) (X := fun w _ => laidMet Tryz.prog yZT w) (fun _ _ _ hh h => h.of_heap hh) hown started (by kernel_rfl) Tryz.func4
  (ChangeSpec.witness_at (enc := enc) (C := Tryz.checked) (os := os) (X := fun w _ => laidMet Tryz.prog yZT w) false (zVK os) #[.agg #[.int .i64 0, .slice none 0 0, .slice none 0 0], .slice none 0 0, .int .i64 0] 8 rfl (by kernel_rfl) (by kernel_rfl) (by kernel_rfl) (by kernel_rfl) (by kernel_rfl) (yKC os _)) ?_
 intro W base args ds gs before hval0 hW hcnd hsz _ _
 have hval : ∀ (j : Nat) t v, Tryz.f4.params[j]? = some t -> args[j]? = some v -> Value.okWide Tryz.prog W .any base t v := hval0
 have hW' := hW
 obtain ⟨p, q, hA0, hV, rfl, hfz, hnd⟩ := hW
 have hA : DataW.TrodAll enc Tryz.prog W 0 (fun _ => true) true Tryz.f4.params.toList args.toList ds p := hA0
 have hpar : Tryz.f4.params = #[25, 49, 3] := by kernel_rfl
 obtain ⟨rfl, rfl⟩ := trodVars_none hV
 have hz : (DataW.weightsEach Tryz.prog Tryz.f4.params.toList ds).all (· <= reachBytes) = true := by
  have h2 : (DataW.weightsEach Tryz.prog (Tryz.f4.params.toList ++ []) (ds ++ [])).all (· <= reachBytes) = true := hsz
  rw [List.append_nil, List.append_nil] at h2
  exact h2
 rw [hpar] at hA hval hz
 obtain ⟨v0, v1, v2, d0, d1, d2, p0, p1, p2, rfl, rfl, hp, h0, h1, h2⟩ := trodAll_three hA
 obtain ⟨c0, rfl, x0, r0, l0⟩ := yWf (α := Tbl) (j := 0) yZP (by kernel_rfl) (hval 0 25 v0 rfl rfl) h0 hz rfl rfl
 obtain ⟨f0, g0, rfl, r0⟩ := r0
 obtain ⟨x1, r1, l1⟩ := zYS (α := (List Act)) (j := 1) (zZT (t := 49) (e := 51) (by kernel_rfl) (by kernel_rfl) (of_decide_eq_true (by kernel_rfl)) yZU) (by kernel_rfl) (hval 1 49 v1 rfl rfl) h1 hz rfl rfl
 obtain ⟨s1, e1, r1⟩ := r1
 obtain rfl : v1 = .slice s1.a s1.len s1.cap := by simpa using e1
 obtain ⟨x2, r2, l2⟩ := zYS (α := Int) (j := 2) (zXk (by kernel_rfl)) (by kernel_rfl) (hval 2 3 v2 rfl rfl) h2 hz rfl rfl
 obtain ⟨r2, _⟩ := r2
 obtain rfl : v2 = .int .i64 x2 := by simpa using r2
 refine (zYE W x0 f0 g0 r0 l0 s1 x1 r1 l1 x2 l2).mono fun e W' ⟨he, hB⟩ => ?_
 subst he
 have hb : Tryz.prog.underlying 4 = some .bool := by kernel_rfl
 refine ⟨_, rfl, yJz hW' hlaid ?_ rfl rfl rfl rfl (tb := 4) (by kernel_rfl) hb hB⟩
 rw [hpar]
 have q3 : Tryz.prog.readableRec 3 = true /\ 3 < Tryz.prog.types.size := ⟨by kernel_rfl, of_decide_eq_true (by kernel_rfl)⟩
 have q25 : Tryz.prog.readableRec 25 = true /\ 25 < Tryz.prog.types.size := ⟨by kernel_rfl, of_decide_eq_true (by kernel_rfl)⟩
 have q49 : Tryz.prog.readableRec 49 = true /\ 49 < Tryz.prog.types.size := ⟨by kernel_rfl, of_decide_eq_true (by kernel_rfl)⟩
 intro t ht
 simp at ht
 rcases ht with rfl | rfl | rfl
 ·exact q25
 ·exact q49
 ·exact q3
theorem bufStores_row : Rows.BufStoresSaid :=
 OpenClaim.holds_of_wide 4 Tryz.f4 rfl rfl rfl rfl rfl rfl rfl ⟨rfl, rfl, rfl, rfl, rfl⟩ rfl rfl rfl rfl rfl (by kernel_rfl) Tryz.func4 (by kernel_rfl)
  (of_decide_eq_true (by kernel_rfl)) (by unfold Func.isWrapper; first | (rw [if_pos (by decide +kernel)]; kernel_rfl) | (rw [if_neg (by decide +kernel)]; exact ⟨rfl, rfl⟩))
  (fun os started H enc _ => bufStores_lifted os started H enc)
theorem bufStores_holds : Rows.BufStoresCardSaid :=
 Claim7.holds_tied_plain_at .later [] [.data, .pinned] true (true, "50ecca2c2abfc3f5ea0ffb317becf0f515af161f7347639d0b99f3253fe5895a") true
  bufStores_row (fun _ h => by cases h) (by kernel_rfl) (fun _ h => by cases h) bufStores_row_tie rfl ⟨rfl, rfl⟩ (by kernel_rfl) rfl
  (fun f fn hf hfn => by
   obtain rfl : f = 4 := (Option.some.inj ((show Tryz.prog.funcNamed "cabinetry/cabinetrylaw17.BufStores" = some 4 by kernel_rfl).symm.trans hf)).symm
   obtain rfl : fn = Tryz.f4 := (Option.some.inj (Tryz.func4.symm.trans hfn)).symm
   refine ⟨by kernel_rfl, fun j t ht => ?_⟩
   rw [show Tryz.f4.params = #[25, 49, 3] by kernel_rfl] at ht
   have q3 : Tryz.prog.wantsStandIn 3 = false := by kernel_rfl
   have q25 : Tryz.prog.wantsStandIn 25 = false := by kernel_rfl
   have q49 : Tryz.prog.wantsStandIn 49 = false := by kernel_rfl
   rcases j with _ | _ | _ | j
   ·obtain rfl : t = 25 := by simpa using ht.symm
    exact q25
   ·obtain rfl : t = 49 := by simpa using ht.symm
    exact q49
   ·obtain rfl : t = 3 := by simpa using ht.symm
    exact q3
   ·simp at ht)
  (by kernel_rfl)
end Go.Proofs.YtcihcbfcgjepfaaGreatDoor
