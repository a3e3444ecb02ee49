import Derived.Test.YtcnenlmhbpijlaaLkWorst
import Derived.Test.YtcnenlmhbpijlaaLkI
/- Link: the most loads that so many steps can add: the plain law of LinkBound. No condition. -/
set_option maxRecDepth 100000
set_option linter.unusedVariables false
set_option linter.unusedSimpArgs false
namespace Go.Proofs.Ytcnenlmhbpijlaa
open Go.Sh Go.RowKit

/-- What n steps can add at most, with these names below the top, from this room. -/
def WS (D : List PDat) : Nat → List ByteArray → ByteArray → Int → Int
  | 0, _, _, _ => 0
  | n + 1, rest, top, room =>
    let f := fun (rest' : List ByteArray) (y : ByteArray) => (enterR (getD D y).1 (room, 0)).2 + WS D n rest' y (enterR (getD D y).1 (room, 0)).1
    let a := ((setS (getD D top).2).map (f (top :: rest))).foldl max 0
    match rest with
    | [] => a
    | t :: r => max a (f r t)
theorem enter_shift (ov room c : Int) : enterR ov (room, c) = ((enterR ov (room, 0)).1, c + (enterR ov (room, 0)).2) := by
  unfold enterR
  split
  · simp
  · split
    · simp
    · simp
theorem enter_one (ov room : Int) : 0 ≤ (enterR ov (room, 0)).2 ∧ (enterR ov (room, 0)).2 ≤ 1 := by
  unfold enterR
  split
  · simp
  · split <;> simp
theorem foldl_max_ge : ∀ (l : List Int) (a : Int), a ≤ l.foldl max a ∧ ∀ x ∈ l, x ≤ l.foldl max a
  | [], a => by simp
  | y :: l, a => by
    obtain ⟨h1, h2⟩ := foldl_max_ge l (max a y)
    simp only [List.foldl_cons, List.mem_cons]
    refine ⟨by omega, ?_⟩
    rintro x (rfl | hx)
    · omega
    · exact h2 x hx
theorem foldl_max_le {b : Int} : ∀ (l : List Int) (a : Int), a ≤ b → (∀ x ∈ l, x ≤ b) → l.foldl max a ≤ b
  | [], a, h, _ => h
  | y :: l, a, h, hl => foldl_max_le l (max a y) (by have := hl y List.mem_cons_self; omega) fun x hx => hl x (List.mem_cons_of_mem _ hx)
theorem WS_bounds (D : List PDat) : ∀ (n : Nat) (rest : List ByteArray) (top : ByteArray) (room : Int), 0 ≤ WS D n rest top room ∧ WS D n rest top room ≤ n
  | 0, _, _, _ => by simp [WS]
  | n + 1, rest, top, room => by
    have hf : ∀ (rest' : List ByteArray) (y : ByteArray), (enterR (getD D y).1 (room, 0)).2 + WS D n rest' y (enterR (getD D y).1 (room, 0)).1 ≤ ((n + 1 : Nat) : Int) := fun rest' y => by
      have h1 := enter_one (getD D y).1 room
      have h2 := WS_bounds D n rest' y (enterR (getD D y).1 (room, 0)).1
      omega
    have ha := foldl_max_ge ((setS (getD D top).2).map fun y => (enterR (getD D y).1 (room, 0)).2 + WS D n (top :: rest) y (enterR (getD D y).1 (room, 0)).1) 0
    have hb := foldl_max_le (b := ((n + 1 : Nat) : Int)) ((setS (getD D top).2).map fun y => (enterR (getD D y).1 (room, 0)).2 + WS D n (top :: rest) y (enterR (getD D y).1 (room, 0)).1) 0 (by omega) fun x hx => by
      obtain ⟨y, _, rfl⟩ := List.mem_map.1 hx
      exact hf _ y
    cases rest with
    | nil => exact ⟨ha.1, hb⟩
    | cons t r =>
      have := hf r t
      simp only [WS]
      have h1 := ha.1
      omega
/-- No walk adds more. -/
theorem walk_WS (D : List PDat) : ∀ (n : Nat) (walk : List ByteArray) (rest : List ByteArray) (top : ByteArray) (r r' : Int × Int), walk.length ≤ n → walkS D (top :: rest) r walk = some r' → r'.2 ≤ r.2 + WS D n rest top r.1
  | n, [], rest, top, r, r', _, h => by
    have h : some r = some r' := h
    cases h
    have := (WS_bounds D n rest top r.1).1
    omega
  | 0, s :: ws, rest, top, r, r', hn, h => by simp at hn
  | n + 1, s :: ws, rest, top, r, r', hn, h => by
    have hn : ws.length ≤ n := by simpa using hn
    rw [walkS_cons] at h
    have ha := foldl_max_ge ((setS (getD D top).2).map fun y => (enterR (getD D y).1 (r.1, 0)).2 + WS D n (top :: rest) y (enterR (getD D y).1 (r.1, 0)).1) 0
    split at h
    · cases rest with
      | nil => cases h
      | cons t r2 =>
        simp only at h
        have h1 := walk_WS D n ws r2 t _ r' hn h
        rw [show r = (r.1, r.2) from rfl, enter_shift] at h1
        simp only [WS]
        simp only at h1
        omega
    · split at h
      · rename_i hc
        have h1 := walk_WS D n ws (top :: rest) s _ r' hn h
        rw [show r = (r.1, r.2) from rfl, enter_shift] at h1
        simp only at h1
        have h2 := ha.2 _ (List.mem_map.2 ⟨s, mem_setS.2 (has_iff.1 hc), rfl⟩)
        have h3 : ((setS (getD D top).2).map fun y => (enterR (getD D y).1 (r.1, 0)).2 + WS D n (top :: rest) y (enterR (getD D y).1 (r.1, 0)).1).foldl max 0 ≤ WS D (n + 1) rest top r.1 := by
          cases rest with
          | nil => exact Int.le_refl _
          | cons t r2 => simp only [WS]; omega
        omega
      · cases h
end Go.Proofs.Ytcnenlmhbpijlaa
