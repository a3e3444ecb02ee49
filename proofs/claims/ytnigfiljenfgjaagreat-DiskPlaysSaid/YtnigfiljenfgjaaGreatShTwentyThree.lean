import Derived.Test.YtnigfiljenfgjaaGreatShSixteen
import Derived.Test.YtnigfiljenfgjaaGreatShThirteen
/- Comparing structs of strings, numbers and truths. For every program. -/
set_option linter.unusedSectionVars false
set_option linter.unusedSimpArgs false
namespace Go.Sh
open Go.RowKit
variable {P : Program}
/-- The kind of a cell: a string, a number, a truth. -/
inductive SK where
  | str
  | int (q : IntKind)
  | bool
def skOf : Value → Option SK
  | .string _ => some .str
  | .int k _ => some (.int k)
  | .bool _ => some .bool
  | _ => none
def isBl : Option TypeDesc → Bool
  | some .bool => true
  | _ => false
theorem isBl_spec {d : Option TypeDesc} (h : isBl d = true) : d = some .bool := by unfold isBl at h; split at h <;> simp_all
def skB (P : Program) (t : TypeId) : SK → Bool
  | .str => isStr (P.underlying t)
  | .int q => intOf (P.underlying t) == some q
  | .bool => isBl (P.underlying t)
theorem equalIn_sk (d : Nat) (w : World) {t : TypeId} {k : SK} {x y : Value} (h4 : skB P t k = true) (hxk : skOf x = some k) (hyk : skOf y = some k) :
    ∃ r, (Op.equalIn (d + 1) t x y).run P w = .ok r w ∧ (r = true ↔ x = y) ∧ (P.underlying t).isSome = true := by
  cases k with
  | str =>
    have hu := isStr_spec h4
    cases x <;> simp [skOf] at hxk
    cases y <;> simp [skOf] at hyk
    refine ⟨_, by simp [Op.equalIn, run_under hu]; rfl, ?_, by rw [hu]; rfl⟩
    rw [beq_bytes]; simp
  | int q =>
    have hu := intOf_spec (by simpa [skB] using h4)
    cases x <;> simp [skOf] at hxk
    cases y <;> simp [skOf] at hyk
    subst hxk; subst hyk
    exact ⟨_, by simp [Op.equalIn, run_under hu]; rfl, by simp, by rw [hu]; rfl⟩
  | bool =>
    have hu := isBl_spec h4
    cases x <;> simp [skOf] at hxk
    cases y <;> simp [skOf] at hyk
    exact ⟨_, by simp [Op.equalIn, run_under hu]; rfl, by simp, by rw [hu]; rfl⟩
end Go.Sh
