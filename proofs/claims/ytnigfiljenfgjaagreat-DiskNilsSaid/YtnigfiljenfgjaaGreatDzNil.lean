/- The disk: what the methods of no system tell: DiskNils walked. -/
import Derived.Test.YtnigfiljenfgjaaGreatDzP
import Derived.Test.YtnigfiljenfgjaaGreatDzFmore
import Derived.Test.YtnigfiljenfgjaaGreatDzFnil
import Derived.Test.YtnigfiljenfgjaaGreatDzFnil2
import Derived.Test.YtnigfiljenfgjaaGreatShSeventeen
set_option maxRecDepth 100000
set_option linter.unusedVariables false
set_option linter.unusedSimpArgs false
namespace Go.Proofs.YtnigfiljenfgjaaGreat
open Go.Sh Go.RowKit

theorem fnE_mk (f : FuncId) (a b : Array Value) (K : FuncId → Array Value → Array Value → Prop) : fnE (.func (.func f) a b) K = K f a b := rfl
theorem enterNil_c (u : Int) (name : ByteArray) (w : World) : Calls Tryz.prog 43 #[.pointer none, .int .i64 u, .string name] w fun e w' => e = .returned (.tuple #[(.func (.func 93) #[] #[]), .int .i64 9]) ∧ w' = w := by
  refine F43_calls _ u name w _ ?_
  exact ⟨true, w, eqS_ptr_nil u23 _ _ _ w, rfl, rfl⟩
theorem leaveNil {w : World} {K : World → Prop} (hK : K w) : runD Tryz.prog [{ target := .fn (.func 93) #[], args := (([] : List Value) ++ []).toArray }] w K := by
  show CallsD Tryz.prog 93 #[] .returning w _
  refine CallsD.mono (F93_callsD w (fun e w' => e = .returned (.tuple #[]) ∧ w' = w) .returning ⟨rfl, rfl⟩) ?_
  rintro e u' w' ⟨rfl, rfl, rfl⟩
  exact ⟨⟨_, rfl⟩, rfl, hK⟩

theorem eqS_none (x y : Operand) (w : World) : (eqS .eql 25 x y (.pointer none) (.pointer none)).run Tryz.prog w = .ok (.bool true) w := eqS_ptr_nil u23 x y none w
theorem readNil_c (u : Int) (name : ByteArray) (a n : Int) (w : World) : Calls Tryz.prog 13 #[.pointer none, .int .i64 u, .string name, .int .i64 a, .int .i64 n] w fun e w' => e = .returned (.tuple #[.slice none 0 0, .int .i64 9]) ∧ w' = w := by
  refine F13_calls _ _ _ _ _ w _ ?_
  refine Calls.mono (enterNil_c u name w) ?_
  rintro e w1 ⟨rfl, rfl⟩
  refine ⟨_, _, rfl, ?_⟩
  rw [fnE_mk]
  refine Br.of (fun h => ?_) (fun h => ?_)
  · exact leaveNil ⟨rfl, rfl⟩
  · cases h
theorem diskNil_c (name : ByteArray) (w : World) : Calls Tryz.prog 15 #[.pointer none, .string name] w fun e w' => e = .returned (.tuple #[.slice none 0 0, .int .i64 9]) ∧ w' = w := by
  refine F15_calls _ _ w _ ?_
  refine Calls.mono (enterNil_c 0 name w) ?_
  rintro e w1 ⟨rfl, rfl⟩
  refine ⟨_, _, rfl, ?_⟩
  rw [fnE_mk]
  refine Br.of (fun h => ?_) (fun h => ?_)
  · exact leaveNil ⟨rfl, rfl⟩
  · cases h
theorem makeNil_c (name : ByteArray) (w : World) : Calls Tryz.prog 16 #[.pointer none, .string name] w fun e w' => e = .returned (.int .i64 9) ∧ w' = w := by
  refine F16_calls _ _ w _ ?_
  refine Calls.mono (enterNil_c 0 name w) ?_
  rintro e w1 ⟨rfl, rfl⟩
  refine ⟨_, _, rfl, ?_⟩
  rw [fnE_mk]
  refine Br.of (fun h => ?_) (fun h => Br.of (fun h => ?_) (fun h => ?_))
  · cases h
  · exact leaveNil ⟨rfl, rfl⟩
  · cases h
theorem fallNil_c (u : Int) (w : World) : Calls Tryz.prog 14 #[.pointer none, .int .i64 u] w fun e w' => e = .returned (.tuple #[.int .i64 0, .int .i64 9]) ∧ Pu w w' := by
  refine F14_calls _ _ w _ ?_
  refine alE_intro fun w1 hw1 => ?_
  exact ⟨true, w1, eqS_none _ _ w1, rfl, by rw [hw1]; exact Pu.alloc w _⟩
theorem filesNil_c (w : World) : Calls Tryz.prog 17 #[.pointer none] w fun e w' => e = .returned (.slice none 0 0) ∧ w' = w := by
  refine F17_calls _ w _ ?_
  exact ⟨true, w, eqS_none _ _ w, rfl, rfl⟩
theorem locksNil_c (w : World) : Calls Tryz.prog 18 #[.pointer none] w fun e w' => e = .returned (.slice none 0 0) ∧ w' = w := by
  refine F18_calls _ w _ ?_
  refine Calls.mono (filesNil_c w) ?_
  rintro e w1 ⟨rfl, rfl⟩
  exact ⟨⟨none, 0, 0⟩, rfl, true, w1, eqS_none _ _ w1, rfl, rfl⟩
theorem copyNil_c (w : World) : Calls Tryz.prog 20 #[.pointer none] w fun e w' => e = .returned (.pointer none) ∧ w' = w := by
  refine F20_calls _ w _ ?_
  exact ⟨true, w, eqS_none _ _ w, rfl, rfl⟩
theorem sameNil_c (w : World) : Calls Tryz.prog 19 #[.pointer none, .pointer none] w fun e w' => e = .returned (.bool true) ∧ w' = w := by
  refine F19_calls _ _ w _ ?_
  exact ⟨true, w, eqS_none _ _ w, true, w, eqS_none _ _ w, rfl, rfl⟩
theorem nils_k (w : World) (u : Int) (_ : Lim.ok u) (name : ByteArray) (_ : Lim.ok name) : Calls Tryz.prog 4 #[.int .i64 u, .string name] w fun e w' => e = .returned (.bool true) ∧ Pu w w' := by
  refine F4_calls u name w _ ?_
  refine Calls.mono (readNil_c u name 0 0 w) ?_
  rintro e w1 ⟨rfl, rfl⟩
  refine ⟨⟨none, 0, 0⟩, _, rfl, ?_⟩
  refine Calls.mono (fallNil_c u w1) ?_
  rintro e w2 ⟨rfl, hp2⟩
  refine ⟨_, _, rfl, ?_⟩
  refine Calls.mono (diskNil_c name w2) ?_
  rintro e w3 ⟨rfl, rfl⟩
  refine ⟨⟨none, 0, 0⟩, _, rfl, ?_⟩
  refine Calls.mono (makeNil_c name w3) ?_
  rintro e w4 ⟨rfl, rfl⟩
  refine ⟨_, rfl, Br.t rfl (Br.t rfl (Br.t rfl (Br.t rfl ?_)))⟩
  refine Calls.mono (filesNil_c w4) ?_
  rintro e w5 ⟨rfl, rfl⟩
  refine ⟨⟨none, 0, 0⟩, rfl, Br.t rfl ?_⟩
  refine Calls.mono (locksNil_c w5) ?_
  rintro e w6 ⟨rfl, rfl⟩
  refine ⟨⟨none, 0, 0⟩, rfl, Br.t rfl ?_⟩
  refine Calls.mono (copyNil_c w6) ?_
  rintro e w7 ⟨rfl, rfl⟩
  refine ⟨none, rfl, ?_⟩
  refine Calls.mono (sameNil_c w7) ?_
  rintro e w8 ⟨rfl, rfl⟩
  refine ⟨true, rfl, Br.t rfl ?_⟩
  refine Calls.mono (known_c w8) ?_
  rintro e w9 ⟨rfl, hp9⟩
  exact ⟨true, rfl, rfl, hp2.trans hp9⟩
end Go.Proofs.YtnigfiljenfgjaaGreat
