import Derived.Test.YtnigfiljenfgjaaGreatShSeventeen
import Derived.Lib.SlicesCompact
/- Plain laws: texts in their order, sorted; runs of equal texts as one; the set of a list. No program in sight. -/
set_option linter.unusedVariables false
set_option linter.unusedSimpArgs false
namespace Go.Sh
theorem bytes_ext {a b : ByteArray} (h : a.data.toList = b.data.toList) : a = b := by
  cases a; cases b
  simp only at h
  congr 1
  exact Array.toList_inj.1 h
def bLe (a b : ByteArray) : Bool := decide (a.data.toList ≤ b.data.toList)
def bLt (a b : ByteArray) : Bool := decide (a.data.toList < b.data.toList)
theorem bLe_trans (a b c : ByteArray) (h : bLe a b = true) (k : bLe b c = true) : bLe a c = true := decide_eq_true (List.le_trans (of_decide_eq_true h) (of_decide_eq_true k))
theorem bLe_total (a b : ByteArray) : (bLe a b || bLe b a) = true := by
  rcases List.le_total a.data.toList b.data.toList with h | h
  · simp [bLe, h]
  · simp [bLe, h]
theorem bLe_antisymm {a b : ByteArray} (h : bLe a b = true) (k : bLe b a = true) : a = b := bytes_ext (List.le_antisymm (of_decide_eq_true h) (of_decide_eq_true k))
theorem bLe_refl (a : ByteArray) : bLe a a = true := by have := bLe_total a a; simpa using this
theorem bLt_iff {a b : ByteArray} : bLt a b = true ↔ bLe b a = false := by
  simp only [bLt, bLe, decide_eq_true_eq, decide_eq_false_iff_not]
  exact ⟨fun h k => k h, fun h => Classical.byContradiction fun k => h k⟩
theorem bLt_le {a b : ByteArray} (h : bLt a b = true) : bLe a b = true := by
  have := bLe_total a b
  rw [bLt_iff.1 h, Bool.or_false] at this
  exact this
theorem bLt_ne {a b : ByteArray} (h : bLt a b = true) : a ≠ b := fun e => by
  subst e
  have := bLt_iff.1 h
  rw [bLe_refl] at this
  cases this
theorem bLt_of {a b : ByteArray} (h : bLe a b = true) (hn : a ≠ b) : bLt a b = true := by
  rw [bLt_iff]
  cases hb : bLe b a with
  | false => rfl
  | true => exact absurd (bLe_antisymm h hb) hn
theorem bLt_trans {a b c : ByteArray} (h : bLt a b = true) (k : bLe b c = true) : bLt a c = true := by
  refine bLt_of (bLe_trans a b c (bLt_le h) k) fun e => ?_
  subst e
  exact bLt_ne h (bLe_antisymm (bLt_le h) k)
def srt (l : List ByteArray) : List ByteArray := l.mergeSort bLe
theorem srt_perm (l : List ByteArray) : (srt l).Perm l := List.mergeSort_perm l bLe
theorem srt_sorted (l : List ByteArray) : (srt l).Pairwise (fun a b => bLe a b = true) := List.pairwise_mergeSort bLe_trans bLe_total l
theorem mem_srt {l : List ByteArray} {x : ByteArray} : x ∈ srt l ↔ x ∈ l := (srt_perm l).mem_iff
/-- A list that ascends is known by its members. -/
theorem asc_ext : ∀ {l l' : List ByteArray}, l.Pairwise (fun a b => bLt a b = true) → l'.Pairwise (fun a b => bLt a b = true) → (∀ x, x ∈ l ↔ x ∈ l') → l = l'
  | [], [], _, _, _ => rfl
  | [], y :: _, _, _, h => by have := (h y).2 List.mem_cons_self; simp at this
  | x :: _, [], _, _, h => by have := (h x).1 List.mem_cons_self; simp at this
  | x :: r, y :: r', h1, h2, h => by
    obtain ⟨a1, b1⟩ := List.pairwise_cons.1 h1
    obtain ⟨a2, b2⟩ := List.pairwise_cons.1 h2
    have hxy : x = y := by
      rcases List.mem_cons.1 ((h x).1 List.mem_cons_self) with e | e
      · exact e
      · rcases List.mem_cons.1 ((h y).2 List.mem_cons_self) with e' | e'
        · exact e'.symm
        · have h3 := a2 x e
          have h4 := a1 y e'
          exact absurd (bLe_antisymm (bLt_le h4) (bLt_le h3)) (bLt_ne h4)
    subst hxy
    have hr : r = r' := asc_ext b1 b2 fun z => by
      have := h z
      simp only [List.mem_cons] at this
      constructor
      · intro hz
        rcases this.1 (.inr hz) with e | e
        · subst e; exact absurd rfl (bLt_ne (a1 z hz))
        · exact e
      · intro hz
        rcases this.2 (.inr hz) with e | e
        · subst e; exact absurd rfl (bLt_ne (a2 z hz))
        · exact e
    rw [hr]
end Go.Sh
