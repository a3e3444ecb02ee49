import Derived.Test.YtcnenlmhbpijlaaLkWorstAll
import Derived.Test.YtcnenlmhbpijlaaLkT
import Derived.ChangeKeysEq
import Derived.Test.YtcnenlmhbpijlaaShThirteen
import Derived.Test.YtcnenlmhbpijlaaLkBound
/- Link: walks taken apart at the last time in each procedure: the plain law of LinkWorst. No condition. -/
set_option maxRecDepth 100000
set_option linter.unusedVariables false
set_option linter.unusedSimpArgs false
namespace Go.Proofs.Ytcnenlmhbpijlaa
open Go.Sh Go.RowKit

abbrev En (D : List PDat) (y : ByteArray) (room : Int) : Int × Int := enterR (getD D y).1 (room, 0)

/-- Walks that end where they begin, without returning from there. -/
inductive Cl (D : List PDat) : ByteArray → Int → Nat → Int → Int → Prop
  | nil {k : ByteArray} {room : Int} : Cl D k room 0 room 0
  | step {k y : ByteArray} {room r e c1 c2 : Int} {s n : Nat} : y ∈ (getD D k).2 → Cl D y (En D y room).1 s r c1 → Cl D k (En D k r).1 n e c2 → Cl D k room (s + 2 + n) e ((En D y room).2 + c1 + (En D k r).2 + c2)
/-- Walks that do not return from where they begin. -/
inductive Op (D : List PDat) : ByteArray → Int → Nat → Int → Prop
  | stop {k : ByteArray} {room r c : Int} {s n : Nat} : Cl D k room s r c → s ≤ n → Op D k room n c
  | go {k y : ByteArray} {room r c c2 : Int} {s n : Nat} : Cl D k room s r c → s < n → y ∈ (getD D k).2 → Op D y (En D y r).1 (n - s - 1) c2 → Op D k room n (c + (En D y r).2 + c2)
/-- Walks. -/
inductive Wk (D : List PDat) : Nat → List ByteArray → ByteArray → Int → Int → Prop
  | stop {n : Nat} {rest : List ByteArray} {top : ByteArray} {room : Int} : Wk D n rest top room 0
  | call {n : Nat} {rest : List ByteArray} {top y : ByteArray} {room c : Int} : y ∈ (getD D top).2 → Wk D n (top :: rest) y (En D y room).1 c → Wk D (n + 1) rest top room ((En D y room).2 + c)
  | ret {n : Nat} {r : List ByteArray} {t top : ByteArray} {room c : Int} : Wk D n r t (En D t room).1 c → Wk D (n + 1) (t :: r) top room ((En D t room).2 + c)

theorem Cl.cast {D : List PDat} {k : ByteArray} {room e c c' : Int} {n n' : Nat} (h : Cl D k room n e c) (hn : n = n') (hc : c = c') : Cl D k room n' e c' := by subst hn; subst hc; exact h
theorem Op.cast {D : List PDat} {k : ByteArray} {room c c' : Int} {n n' : Nat} (h : Op D k room n c) (hn : n = n') (hc : c = c') : Op D k room n' c' := by subst hn; subst hc; exact h
theorem Wk.cast {D : List PDat} {n n' : Nat} {rest : List ByteArray} {top : ByteArray} {room c c' : Int} (h : Wk D n rest top room c) (hn : n = n') (hc : c = c') : Wk D n' rest top room c' := by subst hn; subst hc; exact h

theorem Cl.bounds {D : List PDat} {k : ByteArray} {room e c : Int} {n : Nat} (h : Cl D k room n e c) : 0 ≤ c ∧ c ≤ n := by
  induction h with
  | nil => simp
  | @step k y room r e c1 c2 s n _ _ _ h1 h2 =>
    have a := enter_one (getD D y).1 room
    have b := enter_one (getD D k).1 r
    simp only [En]
    omega
theorem Op.bounds {D : List PDat} {k : ByteArray} {room c : Int} {n : Nat} (h : Op D k room n c) : 0 ≤ c ∧ c ≤ n := by
  induction h with
  | stop h hn => have := h.bounds; omega
  | @go k y room r c c2 s n h hn _ _ ih =>
    have h1 := h.bounds
    have a := enter_one (getD D y).1 r
    simp only [En]
    omega
theorem Cl.trans {D : List PDat} {k : ByteArray} {room r c : Int} {s : Nat} (h : Cl D k room s r c) : ∀ {n : Nat} {e c2 : Int}, Cl D k r n e c2 → Cl D k room (s + n) e (c + c2) := by
  induction h with
  | nil => intro n e c2 h; exact h.cast (by omega) (by omega)
  | step hy h1 h2 ih1 ih2 => intro n e c2 h; exact (Cl.step hy h1 (ih2 h)).cast (by omega) (by omega)
theorem Op.pre {D : List PDat} {k : ByteArray} {room r c0 c : Int} {s n : Nat} (h : Cl D k room s r c0) (ho : Op D k r n c) : Op D k room (s + n) (c0 + c) := by
  cases ho with
  | stop h2 hn => exact .stop (h.trans h2) (by omega)
  | @go _ y _ r2 c1 c2 s2 _ h2 hn hy ho => exact (Op.go (h.trans h2) (by omega) hy (ho.cast (by omega) rfl)).cast rfl (by omega)
theorem Cl.wk {D : List PDat} {k : ByteArray} {room r c : Int} {s : Nat} (h : Cl D k room s r c) : ∀ {n : Nat} {rest : List ByteArray} {c2 : Int}, Wk D n rest k r c2 → Wk D (s + n) rest k room (c + c2) := by
  induction h with
  | nil => intro n rest c2 h; exact h.cast (by omega) (by omega)
  | step hy h1 h2 ih1 ih2 => intro n rest c2 h; exact (Wk.call hy (ih1 (.ret (ih2 h)))).cast (by omega) (by omega)
theorem Op.wk {D : List PDat} {k : ByteArray} {room c : Int} {n : Nat} (h : Op D k room n c) : ∀ (rest : List ByteArray), Wk D n rest k room c := by
  induction h with
  | @stop k room r c s n h hn => intro rest; exact (h.wk (n := n - s) .stop).cast (by omega) (by omega)
  | @go k y room r c c2 s n h hn hy _ ih => intro rest; exact (h.wk (Wk.call (n := n - s - 1) hy (ih (k :: rest)))).cast (by omega) (by omega)

theorem Wk.part {D : List PDat} : ∀ (N n : Nat), n ≤ N → ∀ {rest : List ByteArray} {top : ByteArray} {room c : Int}, Wk D n rest top room c →
    Op D top room n c ∨ ∃ t r' s r c1 c2, rest = t :: r' ∧ Cl D top room s r c1 ∧ s + 1 ≤ n ∧ Wk D (n - s - 1) r' t (En D t r).1 c2 ∧ c = c1 + (En D t r).2 + c2 := by
    intro N
    induction N with
    | zero =>
      intro n hN rest top room c h
      cases h with
      | stop => exact .inl (.stop .nil (Nat.zero_le _))
      | call hy h => omega
      | ret h => omega
    | succ N ih =>
      intro n hN rest top room c h
      cases h with
      | stop => exact .inl (.stop .nil (Nat.zero_le _))
      | @ret n r t _ _ c h => exact .inr ⟨t, r, 0, room, 0, c, rfl, .nil, by omega, h.cast (by omega) rfl, by omega⟩
      | @call m _ _ y _ c hy h =>
        rcases ih m (by omega) h with ho | ⟨t, r', s, r, c1, c2, e, hc, hs, hw, rfl⟩
        · exact .inl ((Op.go .nil (Nat.succ_pos m) hy (ho.cast (by omega) rfl)).cast rfl (by omega))
        · simp only [List.cons.injEq] at e
          obtain ⟨rfl, rfl⟩ := e
          rcases ih (m - s - 1) (by omega) hw with ho | ⟨t2, r2, s2, q2, c3, c4, rfl, hc2, hs2, hw2, rfl⟩
          · exact .inl ((Op.pre (Cl.step hy hc .nil) ho).cast (by omega) (by omega))
          · exact .inr ⟨t2, r2, s + 2 + s2, q2, _, c4, rfl, Cl.step hy hc hc2, by omega, hw2.cast (by omega) rfl, by omega⟩
theorem wk_open {D : List PDat} {n : Nat} {k : ByteArray} {room c : Int} : Wk D n [] k room c ↔ Op D k room n c := by
  refine ⟨fun h => ?_, fun h => h.wk []⟩
  rcases Wk.part n n (Nat.le_refl _) h with ho | ⟨t, r', s, r, c1, c2, e, _⟩
  · exact ho
  · cases e

theorem foldl_max_mem : ∀ (l : List Int) (a : Int), l.foldl max a = a ∨ l.foldl max a ∈ l
  | [], a => .inl rfl
  | y :: l, a => by
    rw [List.foldl_cons]
    rcases foldl_max_mem l (max a y) with h | h
    · rw [h]
      rcases Int.le_total a y with h2 | h2
      · right; rw [Int.max_eq_right h2]; exact List.mem_cons_self
      · left; exact Int.max_eq_left h2
    · exact .inr (List.mem_cons_of_mem _ h)
theorem WS_En (D : List PDat) (n : Nat) (t : ByteArray) (r : List ByteArray) (top : ByteArray) (room : Int) : WS D (n + 1) (t :: r) top room = max (((setS (getD D top).2).map fun y => (En D y room).2 + WS D n (top :: t :: r) y (En D y room).1).foldl max 0) ((En D t room).2 + WS D n r t (En D t room).1) := rfl
theorem wk_le {D : List PDat} {n : Nat} {rest : List ByteArray} {top : ByteArray} {room c : Int} (h : Wk D n rest top room c) : c ≤ WS D n rest top room := by
  induction h with
  | stop => exact (WS_bounds D _ _ _ _).1
  | @call n rest top y room c hy _ ih =>
    have ha := foldl_max_ge ((setS (getD D top).2).map fun y => (En D y room).2 + WS D n (top :: rest) y (En D y room).1) 0
    have h2 := ha.2 _ (List.mem_map.2 ⟨y, mem_setS.2 hy, rfl⟩)
    have h3 : ((setS (getD D top).2).map fun y => (En D y room).2 + WS D n (top :: rest) y (En D y room).1).foldl max 0 ≤ WS D (n + 1) rest top room := by
      cases rest with
      | nil => exact Int.le_refl _
      | cons t r2 => rw [WS_En]; omega
    omega
  | @ret n r t top room c _ ih =>
    have h3 : (En D t room).2 + WS D n r t (En D t room).1 ≤ WS D (n + 1) (t :: r) top room := by rw [WS_En]; omega
    omega
theorem wk_at (D : List PDat) : ∀ (n : Nat) (rest : List ByteArray) (top : ByteArray) (room : Int), Wk D n rest top room (WS D n rest top room)
  | 0, _, _, _ => .stop
  | n + 1, rest, top, room => by
    have ha : Wk D (n + 1) rest top room (((setS (getD D top).2).map fun y => (En D y room).2 + WS D n (top :: rest) y (En D y room).1).foldl max 0) := by
      rcases foldl_max_mem ((setS (getD D top).2).map fun y => (En D y room).2 + WS D n (top :: rest) y (En D y room).1) 0 with h | h
      · rw [h]; exact .stop
      · obtain ⟨y, hy, he⟩ := List.mem_map.1 h
        rw [← he]
        exact .call (mem_setS.1 hy) (wk_at D n _ _ _)
    cases rest with
    | nil => exact ha
    | cons t r =>
      have hb : Wk D (n + 1) (t :: r) top room ((En D t room).2 + WS D n r t (En D t room).1) := .ret (wk_at D n _ _ _)
      rw [WS_En]
      rcases Int.le_total (((setS (getD D top).2).map fun y => (En D y room).2 + WS D n (top :: t :: r) y (En D y room).1).foldl max 0) ((En D t room).2 + WS D n r t (En D t room).1) with h | h
      · exact hb.cast rfl (Int.max_eq_right h).symm
      · exact ha.cast rfl (Int.max_eq_left h).symm
/-- The most that walks can add, said by the reference's words. -/
theorem WS_eq {D : List PDat} {n : Nat} {k : ByteArray} {room v : Int} (h1 : ∀ c, Op D k room n c → c ≤ v) (h2 : Op D k room n v) : WS D n [] k room = v := by
  have a := wk_le (wk_open.2 h2)
  have b := h1 _ (wk_open.1 (wk_at D n [] k room))
  omega
theorem En_room {D : List PDat} (hov : ∀ x, 0 ≤ (getD D x).1 ∧ (getD D x).1 ≤ 15) (y : ByteArray) {room : Int} (h : 0 ≤ room ∧ room ≤ 15) : 0 ≤ (En D y room).1 ∧ (En D y room).1 ≤ 15 := by
  have := hov y
  simp only [En]
  unfold enterR
  split
  · exact h
  · split
    · exact h
    · exact this
theorem Cl.room {D : List PDat} (hov : ∀ x, 0 ≤ (getD D x).1 ∧ (getD D x).1 ≤ 15) {k : ByteArray} {room e c : Int} {n : Nat} (h : Cl D k room n e c) (hr : 0 ≤ room ∧ room ≤ 15) : 0 ≤ e ∧ e ≤ 15 := by
  induction h with
  | nil => exact hr
  | step hy _ _ ih1 ih2 => exact ih2 (En_room hov _ (ih1 (En_room hov _ hr)))
end Go.Proofs.Ytcnenlmhbpijlaa

/- Link: rows of sixteen numbers, keys of three; the reference's tables for the worst walk. No condition. -/
set_option maxRecDepth 100000
set_option linter.unusedVariables false
set_option linter.unusedSimpArgs false
namespace Go.Proofs.Ytcnenlmhbpijlaa
open Go.Sh Go.RowKit

/-! ### Rows of sixteen numbers -/
abbrev arrC (f : Nat → Int) : Array Value := #[.int .i64 (f 0), .int .i64 (f 1), .int .i64 (f 2), .int .i64 (f 3), .int .i64 (f 4), .int .i64 (f 5), .int .i64 (f 6), .int .i64 (f 7), .int .i64 (f 8), .int .i64 (f 9), .int .i64 (f 10), .int .i64 (f 11), .int .i64 (f 12), .int .i64 (f 13), .int .i64 (f 14), .int .i64 (f 15)]
abbrev evA : (Nat → Int) → Value := fun f => .agg (arrC f)
theorem arr_get (f : Nat → Int) {i : Nat} (h : i < 16) : (arrC f)[i]? = some (.int .i64 (f i)) := by
  match i, h with
  | 0, _ => rfl
  | 1, _ => rfl
  | 2, _ => rfl
  | 3, _ => rfl
  | 4, _ => rfl
  | 5, _ => rfl
  | 6, _ => rfl
  | 7, _ => rfl
  | 8, _ => rfl
  | 9, _ => rfl
  | 10, _ => rfl
  | 11, _ => rfl
  | 12, _ => rfl
  | 13, _ => rfl
  | 14, _ => rfl
  | 15, _ => rfl
  | n + 16, h => omega
def setF (f : Nat → Int) (i : Nat) (v : Int) : Nat → Int := fun j => if j = i then v else f j
theorem arr_set (f : Nat → Int) {i : Nat} (h : i < 16) (v : Int) : (arrC f).setIfInBounds i (.int .i64 v) = arrC (setF f i v) := by
  match i, h with
  | 0, _ => rfl
  | 1, _ => rfl
  | 2, _ => rfl
  | 3, _ => rfl
  | 4, _ => rfl
  | 5, _ => rfl
  | 6, _ => rfl
  | 7, _ => rfl
  | 8, _ => rfl
  | 9, _ => rfl
  | 10, _ => rfl
  | 11, _ => rfl
  | 12, _ => rfl
  | 13, _ => rfl
  | 14, _ => rfl
  | 15, _ => rfl
  | n + 16, h => omega
theorem arr_size (f : Nat → Int) : (arrC f).size = 16 := rfl

/-! ### Keys of three numbers -/
abbrev K3 := Int × Int × Int
abbrev ek3 : K3 → Value := fun k => .agg #[.int .i64 k.1, .int .i64 k.2.1, .int .i64 k.2.2]
theorem u130 : Try.prog.underlying 130 = some (.array 3 3) := by kernel_rfl
theorem u112 : Try.prog.underlying 112 = some (.map 130 77) := by kernel_rfl
theorem u113 : Try.prog.underlying 113 = some (.map 130 3) := by kernel_rfl
theorem part3 {cs : Array Value} {o : Nat} {v : Value} (w : World) (hv : cs[o]? = some v) : (part 3 cs o).run Try.prog w = .ok v w := run_part_one (by kernel_rfl) (by kernel_rfl) hv
theorem K130 : Keys Try.prog 130 ek3 := by
  refine ⟨fun e x w => ?_, ⟨_, u130, .inr ⟨fun x y => rfl, fun x y w => ?_⟩⟩, fun x => ?_⟩
  · show (Instr.checkKey e (9999 + 1) 130 _).run _ w = _
    unfold Instr.checkKey
    simp only [Sem.run_bind, run_under u130, Result.andThen_ok]
    have hc : ∀ n : Int, (Instr.checkKey e 9999 3 (.int .i64 n)).run Try.prog w = .ok () w := fun n => by
      show (Instr.checkKey e (9998 + 1) _ _).run _ w = _
      unfold Instr.checkKey
      simp [run_under u3]
    have hz : (sizeOf 3).run Try.prog w = .ok 1 w := Try.sizeOf3 w
    have p0 := part3 (cs := #[.int .i64 x.1, .int .i64 x.2.1, .int .i64 x.2.2]) (o := 0) w rfl
    have p1 := part3 (cs := #[.int .i64 x.1, .int .i64 x.2.1, .int .i64 x.2.2]) (o := 1) w rfl
    have p2 := part3 (cs := #[.int .i64 x.1, .int .i64 x.2.1, .int .i64 x.2.2]) (o := 2) w rfl
    simp only [Std.Legacy.Range.forIn_eq_forIn_range', Std.Legacy.Range.size]
    rw [show List.range' 0 ((3 - 0 + 1 - 1) / 1) 1 = [0, 1, 2] from rfl]
    simp [hz, p0, p1, p2, hc]
  · show (Op.equalIn (9999 + 1) 130 _ _).run _ w = _
    obtain ⟨i, hi⟩ : ∃ i, Try.prog.info? 3 = some i := by
      have := info3
      cases h : Try.prog.info? 3 with
      | none => rw [h] at this; cases this
      | some i => exact ⟨i, rfl⟩
    rw [run_equalIn_array w 9999 _ _ u130 hi, show Try.prog.cellsOf 3 = 1 by kernel_rfl, show List.range 3 = [0, 1, 2] from rfl]
    have he : ∀ a b : Int, (Op.equalIn 9999 3 (.int .i64 a) (.int .i64 b)).run Try.prog w = .ok (a == b) w := fun a b => by
      show (Op.equalIn (9998 + 1) _ _ _).run _ w = _
      unfold Op.equalIn
      simp [run_under u3]
    have p : ∀ y : K3, (part 3 #[.int .i64 y.1, .int .i64 y.2.1, .int .i64 y.2.2] (0 * 1)).run Try.prog w = .ok (.int .i64 y.1) w ∧ (part 3 #[.int .i64 y.1, .int .i64 y.2.1, .int .i64 y.2.2] (1 * 1)).run Try.prog w = .ok (.int .i64 y.2.1) w ∧ (part 3 #[.int .i64 y.1, .int .i64 y.2.1, .int .i64 y.2.2] (2 * 1)).run Try.prog w = .ok (.int .i64 y.2.2) w :=
      fun y => ⟨part3 w rfl, part3 w rfl, part3 w rfl⟩
    obtain ⟨a, b, c⟩ := x
    obtain ⟨a', b', c'⟩ := y
    obtain ⟨x0, x1, x2⟩ := p (a, b, c)
    obtain ⟨y0, y1, y2⟩ := p (a', b', c')
    simp only at x0 x1 x2 y0 y1 y2
    simp only [Op.eqItems, Sem.run_bind, x0, y0, Result.andThen_ok, he]
    by_cases h0 : a = a'
    · subst h0
      simp only [beq_self_eq_true, Bool.not_true, Bool.false_eq_true, if_false, Sem.run_bind, x1, y1, Result.andThen_ok, he]
      by_cases h1 : b = b'
      · subst h1
        simp only [beq_self_eq_true, Bool.not_true, Bool.false_eq_true, if_false, Sem.run_bind, x2, y2, Result.andThen_ok, he]
        by_cases h2 : c = c'
        · subst h2; simp
        · simp [h2]
      · simp [h1]
    · simp [h0]
  · show Instr.sameBits (9999 + 1) _ _ = true
    simp [Instr.sameBits]
theorem look112 {w : World} {b : Nat} {M : List (K3 × (Nat → Int))} (h : MapAt w ek3 evA b M) (k : K3) : (Instr.lookup 112 (.map (some b)) (ek3 k) true).run Try.prog w = .ok (.tuple #[evA ((AL.get M k).getD fun _ => 0), .bool (AL.get M k).isSome]) w := by
  have h1 := MapAt.look h K130 u112 (Try.zeroValue77 w) k true
  simp only [if_true] at h1
  rw [h1]
  cases AL.get M k <;> rfl
theorem put112 {w : World} {b : Nat} {M : List (K3 × (Nat → Int))} (h : MapAt w ek3 evA b M) (k : K3) (f : Nat → Int) : ∃ w', (Instr.mapUpdate 112 (.map (some b)) (ek3 k) (evA f)).run Try.prog w = .ok () w' ∧ MapAt w' ek3 evA b (AL.put M k f) ∧ Fr (· = b) w w' ∧ w'.heap.size = w.heap.size := MapAt.upd h K130 u112 k f
theorem look113 {w : World} {b : Nat} {M : List (K3 × Int)} (h : MapAt w ek3 evI b M) (k : K3) : (Instr.lookup 113 (.map (some b)) (ek3 k) true).run Try.prog w = .ok (.tuple #[.int .i64 ((AL.get M k).getD 0), .bool (AL.get M k).isSome]) w := by
  have h1 := MapAt.look h K130 u113 (Try.zeroValue3 w) k true
  simp only [if_true] at h1
  rw [h1]
  cases AL.get M k <;> rfl
theorem put113 {w : World} {b : Nat} {M : List (K3 × Int)} (h : MapAt w ek3 evI b M) (k : K3) (n : Int) : ∃ w', (Instr.mapUpdate 113 (.map (some b)) (ek3 k) (.int .i64 n)).run Try.prog w = .ok () w' ∧ MapAt w' ek3 evI b (AL.put M k n) ∧ Fr (· = b) w w' ∧ w'.heap.size = w.heap.size := MapAt.upd h K130 u113 k n
end Go.Proofs.Ytcnenlmhbpijlaa

/- Link: the reference's tables in memory; the room entered; one round of 'around'. No condition. -/
set_option maxRecDepth 100000
set_option linter.unusedVariables false
set_option linter.unusedSimpArgs false
namespace Go.Proofs.Ytcnenlmhbpijlaa
open Go.Sh Go.RowKit

/-- Rows of numbers, each owned. -/
def NxAt (w : World) (s : SV) (N : List (List Int)) (B : Nat → Prop) : Prop := ∃ ts : List SV, RowAt w 30 1 s (ts.map fun t : SV => Value.slice t.a t.len t.cap) ∧ ts.length = N.length ∧ (∀ i ∈ blkOf s, B i) ∧
  ∀ (k : Nat) (t : SV) (l : List Int), ts[k]? = some t → N[k]? = some l → RowAt w 3 1 t (l.map fun n : Int => Value.int .i64 n) ∧ ∀ i ∈ blkOf t, B i
theorem NxAt.fr {w w' : World} {s : SV} {N : List (List Int)} {B C : Nat → Prop} (h : NxAt w s N B) (hf : Fr C w w') (hd : ∀ i, B i → ¬ C i) : NxAt w' s N B := by
  obtain ⟨ts, h1, h2, h3, h4⟩ := h
  exact ⟨ts, h1.fr hf fun i hi => hd i (h3 i hi), h2, h3, fun k t l ht hl => let ⟨a, b⟩ := h4 k t l ht hl; ⟨a.fr hf fun i hi => hd i (b i hi), b⟩⟩
theorem NxAt.get {w : World} {s : SV} {N : List (List Int)} {B : Nat → Prop} (h : NxAt w s N B) {k : Nat} {l : List Int} (hl : N[k]? = some l) : ∃ (a : Addr) (t : SV), s.a = some a ∧ k < s.len ∧ w.cell? (a.add (k * 1)) = some (.slice t.a t.len t.cap) ∧ t.len = l.length ∧ t.len ≤ maxLen ∧
    ∀ (j : Nat) n, l[j]? = some n → ∃ a', t.a = some a' ∧ w.cell? (a'.add (j * 1)) = some (.int .i64 n) := by
  obtain ⟨ts, h1, h2, h3, h4⟩ := h
  have hk : k < ts.length := by rw [h2]; exact (List.getElem?_eq_some_iff.1 hl).1
  obtain ⟨t, ht⟩ := at_k hk
  obtain ⟨hr, _⟩ := h4 k t l ht hl
  obtain ⟨a, ha, hc, _⟩ := h1.cell (j := k) (v := .slice t.a t.len t.cap) (by simp [ht])
  have hl1 : s.len = ts.length := by have := h1.1; simp at this; omega
  have hl2 : t.len = l.length := by have := hr.1; simp at this; omega
  refine ⟨a, t, ha, by omega, by simpa using hc, hl2, Nat.le_trans hr.le_cap.1 hr.le_cap.2, fun j n hn => ?_⟩
  obtain ⟨a', ha', hc', _⟩ := hr.cell (j := j) (v := .int .i64 n) (by simp [hn])
  exact ⟨a', ha', by simpa using hc'⟩

abbrev never : Int := -1073741824
/-- The greatest of numbers, if there is one. -/
def Bst (P : Int → Prop) (v : Int) : Prop := (∀ c, P c → c ≤ v) ∧ (v = never ∨ P v)
abbrev nxt (R : List RP) : List (List Int) := R.map fun r => (setS r.calls).map (findS R)

/-- The reference's tables. -/
structure RSt (R : List RP) (w0 : World) (N0 rS rC rO : Nat) (sp sn : SV) (w : World) (C : List (K3 × (Nat → Int))) (O : List (K3 × Int)) : Prop where
  pu : Pu w0 w
  big : N0 ≤ w.heap.size
  c : w.heap[rS]? = some (.cells #[.slice sp.a sp.len sp.cap, .slice sn.a sn.len sn.cap, .map (some rC), .map (some rO)] 116)
  nx : NxAt w sn (nxt R) (fun i => i < N0 ∧ i ≠ rC ∧ i ≠ rO)
  mc : MapAt w ek3 evA rC C
  mo : MapAt w ek3 evI rO O
  okc : ∀ (k : Nat) (room : Int) (n : Nat) (r : RP) f, AL.get C ((k : Int), room, (n : Int)) = some f → R[k]? = some r → 0 ≤ room ∧ room ≤ 15 → ∀ e : Nat, e < 16 → Bst (Cl (R.map RP.dat) r.name room n e) (f e)
  oko : ∀ (k : Nat) (room : Int) (n : Nat) (r : RP) v, AL.get O ((k : Int), room, (n : Int)) = some v → R[k]? = some r → 0 ≤ room ∧ room ≤ 15 → (∀ c, Op (R.map RP.dat) r.name room n c → c ≤ v) ∧ Op (R.map RP.dat) r.name room n v
theorem RSt.pu' {R : List RP} {w0 : World} {N0 rS rC rO : Nat} {sp sn : SV} {w w' : World} {C : List (K3 × (Nat → Int))} {O : List (K3 × Int)} (h : RSt R w0 N0 rS rC rO sp sn w C O) (hp : Pu w w') : RSt R w0 N0 rS rC rO sp sn w' C O :=
  ⟨h.pu.trans hp, Nat.le_trans h.big hp.size, hp.blk h.c, h.nx.fr (Fr.pu hp : Fr (fun _ => False) w w') fun _ _ h => h, h.mc.pu hp, h.mo.pu hp, h.okc, h.oko⟩

/-- What is asked of the procedures. -/
structure RCtx (w0 : World) (R : List RP) (sp : SV) : Prop where
  rd : RdSl w0 sp R
  nd : (R.map (·.name)).Nodup
  ov : ∀ x, 0 ≤ (getD (R.map RP.dat) x).1 ∧ (getD (R.map RP.dat) x).1 ≤ 15
  call : ∀ x y, y ∈ (getD (R.map RP.dat) x).2 → isIn (R.map RP.dat) y = true
  len : ∀ x, (getD (R.map RP.dat) x).2.length ≤ 100
  small : R.length ≤ 100

theorem at_dat {R : List RP} (hn : (R.map (·.name)).Nodup) {k : Nat} {r : RP} (hr : R[k]? = some r) : getD (R.map RP.dat) r.name = (r.ov, r.calls) := by
  have hin : isIn (R.map RP.dat) r.name = true := by
    rw [← find_isIn, List.any_eq_true]; exact ⟨r, List.mem_of_getElem? hr, by simp⟩
  obtain ⟨j, q, _, hq, hqn, hd⟩ := findS_at hin
  have hj : j < (R.map (·.name)).length := by have := (List.getElem?_eq_some_iff.1 hq).1; simpa using this
  have hk : k < (R.map (·.name)).length := by have := (List.getElem?_eq_some_iff.1 hr).1; simpa using this
  have e : (R.map (·.name))[j] = (R.map (·.name))[k] := by
    have h1 := (List.getElem?_eq_some_iff.1 hq).2
    have h2 := (List.getElem?_eq_some_iff.1 hr).2
    rw [List.getElem_map, List.getElem_map, h1, h2, hqn]
  have : j = k := (List.getElem_inj hn).1 e
  subst this
  have : q = r := Option.some.inj (hq.symm.trans hr)
  subst this
  exact hd.symm

section
variable {R : List RP} {w0 : World} {N0 rS rC rO : Nat} {sp sn : SV}

theorem enter88_c (hC : RCtx w0 R sp) {w : World} {C : List (K3 × (Nat → Int))} {O : List (K3 × Int)} (S : RSt R w0 N0 rS rC rO sp sn w C O) {k : Nat} {r : RP} (hr : R[k]? = some r) (room : Int) :
    Calls Try.prog 88 #[.pointer (some ⟨rS, 0, none⟩), .int .i64 (k : Int), .int .i64 room] w fun e w' => e = .returned (.tuple #[.int .i64 (En (R.map RP.dat) r.name room).1, .int .i64 (En (R.map RP.dat) r.name room).2]) ∧ w' = w := by
  refine F88_calls _ _ _ w _ ?_
  obtain ⟨a, t, ha, hi, ht, c0, c1, c2, c3⟩ := rpAt (hC.rd.pu S.pu) hr
  have hov := hC.ov r.name
  have hd := at_dat hC.nd hr
  simp only [En]
  rw [hd] at hov ⊢
  refine ⟨sp, by rw [cell_blk S.c]; rfl, a, ha, by omega, by omega, r.ov, by simpa using c1, ?_⟩
  simp only at hov
  refine Br.of (fun h1 => ?_) (fun h1 => ?_)
  · have h1 := dtrue h1
    refine Br.of (fun h2 => ?_) (fun h2 => ?_)
    · have h2 : r.ov ≠ room := by simpa using h2
      exact ⟨by unfold enterR; rw [if_neg (by omega), if_neg h2]; rfl, rfl⟩
    · have h2 : r.ov = room := by simpa using h2
      exact ⟨by unfold enterR; rw [if_neg (by omega), if_pos h2], rfl⟩
  · have h1 := dfalse h1
    exact ⟨by unfold enterR; rw [if_pos (by omega)], rfl⟩

/-- What a call of 'around' has in memory while it runs. -/
structure WI (R : List RP) (w0 : World) (N0 rS rC rO : Nat) (sp sn : SV) (O : List (K3 × Int)) (w : World) (k : Nat) (room : Int) (n : Nat) (r8 r9 r12 : Nat) (w' : World) (g : Nat → Int) : Prop where
  st : ∃ C', RSt R w0 N0 rS rC rO sp sn w' C' O
  fr : Fr (fun i => i = rC ∨ w.heap.size ≤ i) w w'
  c8 : w'.heap[r8]? = some (.cells (arrC fun _ => 0) 77)
  c9 : w'.heap[r9]? = some (.cells #[.int .i64 (k : Int), .int .i64 room, .int .i64 (n : Int)] 130)
  c12 : w'.heap[r12]? = some (.cells (arrC g) 77)
variable {O : List (K3 × Int)} {w : World} {k : Nat} {room : Int} {n r8 r9 r12 : Nat}
theorem WI.pu {w1 w2 : World} {g : Nat → Int} (h : WI R w0 N0 rS rC rO sp sn O w k room n r8 r9 r12 w1 g) (hp : Pu w1 w2) : WI R w0 N0 rS rC rO sp sn O w k room n r8 r9 r12 w2 g :=
  ⟨let ⟨C', h⟩ := h.st; ⟨C', h.pu' hp⟩, h.fr.trans (Fr.pu hp : Fr (fun _ => False) w1 w2) fun _ hi _ => hi.elim, hp.blk h.c8, hp.blk h.c9, hp.blk h.c12⟩
theorem WI.call {w1 w2 : World} {g : Nat → Int} (h : WI R w0 N0 rS rC rO sp sn O w k room n r8 r9 r12 w1 g) (hf : Fr (· = rC) w1 w2) {C' : List (K3 × (Nat → Int))} (hS : RSt R w0 N0 rS rC rO sp sn w2 C' O) (h8 : r8 ≠ rC) (h9 : r9 ≠ rC) (h12 : r12 ≠ rC) : WI R w0 N0 rS rC rO sp sn O w k room n r8 r9 r12 w2 g :=
  ⟨⟨C', hS⟩, h.fr.trans hf fun _ hi _ => .inl hi, hf.blk h.c8 h8, hf.blk h.c9 h9, hf.blk h.c12 h12⟩
theorem WI.set {w1 : World} {g : Nat → Int} (h : WI R w0 N0 rS rC rO sp sn O w k room n r8 r9 r12 w1 g) {e : Nat} (he : e < 16) (v : Int) (hC : rC < w.heap.size) (hO : rO < w.heap.size) (hS : rS < w.heap.size) (hN : N0 ≤ w.heap.size) (h12 : w.heap.size ≤ r12) (h0 : w0.heap.size ≤ w.heap.size) (h8 : r8 ≠ r12) (h9 : r9 ≠ r12) :
    WI R w0 N0 rS rC rO sp sn O w k room n r8 r9 r12 (w1.setCell ⟨r12, e, none⟩ (.int .i64 v)) (setF g e v) := by
  have hf : Fr (· = r12) w1 (w1.setCell ⟨r12, e, none⟩ (.int .i64 v)) := Fr.cell w1 r12 e (.int .i64 v)
  obtain ⟨C', S⟩ := h.st
  refine ⟨⟨C', Pu.andNew S.pu hf fun i hi => by omega, Nat.le_trans S.big hf.size, hf.blk S.c (by omega), S.nx.fr hf fun i hi hx => by omega, S.mc.fr hf (by omega), S.mo.fr hf (by omega), S.okc, S.oko⟩, h.fr.trans hf fun i hi _ => .inr (by omega), hf.blk h.c8 h8, hf.blk h.c9 h9, ?_⟩
  have := setCell_blk h.c12 e (.int .i64 v)
  rw [arr_set g he v] at this
  exact this
end
end Go.Proofs.Ytcnenlmhbpijlaa

/- Link: the reference's 'around': its loops. No condition. -/
set_option maxRecDepth 100000
set_option linter.unusedVariables false
set_option linter.unusedSimpArgs false
namespace Go.Proofs.Ytcnenlmhbpijlaa
open Go.Sh Go.RowKit

structure RK (w0 : World) (N0 rS rC rO : Nat) : Prop where
  hC : w0.heap.size ≤ rC
  hO : w0.heap.size ≤ rO
  nC : rC < N0
  nO : rO < N0
  nS : rS < N0
  SC : rS ≠ rC
  SO : rS ≠ rO
  CO : rC ≠ rO

/-- A walk round: out to y, back, and on. -/
def Cand (D : List PDat) (n : Nat) (x : ByteArray) (room : Int) (y : ByteArray) (s : Nat) (q e c : Int) : Prop :=
  ∃ c1 c2, s + 2 ≤ n ∧ Cl D y (En D y room).1 s q c1 ∧ Cl D x (En D x q).1 (n - s - 2) e c2 ∧ c = (En D y room).2 + c1 + (En D x q).2 + c2
theorem Cand.cl {D : List PDat} {n : Nat} {x y : ByteArray} {room q e c : Int} {s : Nat} (h : Cand D n x room y s q e c) (hy : y ∈ (getD D x).2) : Cl D x room n e c := by
  obtain ⟨c1, c2, hs, h1, h2, rfl⟩ := h
  exact (Cl.step hy h1 h2).cast (by omega) rfl
def Inv (D : List PDat) (x : ByteArray) (room : Int) (n : Nat) (Seen : Int → Int → Prop) (g : Nat → Int) : Prop := ∀ e : Nat, e < 16 → (∀ c, Seen e c → c ≤ g e) ∧ (g e = never ∨ Cl D x room n e (g e))
theorem Inv.mono {D : List PDat} {x : ByteArray} {room : Int} {n : Nat} {A B : Int → Int → Prop} {g : Nat → Int} (h : Inv D x room n A g) (hAB : ∀ (e : Nat) c, B e c → A e c) : Inv D x room n B g := fun e he => ⟨fun c hc => (h e he).1 c (hAB _ _ hc), (h e he).2⟩
theorem arr_addr (b e : Nat) : (⟨b, 0, none⟩ : Addr).add (((e : Nat) : Int).toNat * 1) = ⟨b, e, none⟩ := by rw [Int.toNat_natCast, Nat.mul_one, add_def, Nat.zero_add]
theorem arr_cell {w : World} {b t : Nat} {f : Nat → Int} (h : w.heap[b]? = some (.cells (arrC f) t)) {e : Nat} (he : e < 16) : w.cell? ((⟨b, 0, none⟩ : Addr).add (((e : Nat) : Int).toNat * 1)) = some (.int .i64 (f e)) := by
  rw [arr_addr, cell_blk h, arr_get f he]
theorem Bst.real {P : Int → Prop} {v : Int} (h : Bst P v) (hv : v ≠ never) : P v := h.2.resolve_left hv
theorem Bst.none' {D : List PDat} {x : ByteArray} {room e : Int} {n : Nat} {v : Int} (h : Bst (Cl D x room n e) v) (hv : v = never) : ∀ c, ¬ Cl D x room n e c := fun c hc => by
  have h1 := h.1 c hc
  have h2 := hc.bounds
  have hnv : never = -1073741824 := rfl
  omega

section
variable {R : List RP} {w0 : World} {N0 rS rC rO : Nat} {sp sn : SV} {O : List (K3 × Int)} {w : World} {k : Nat} {room : Int} {n r8 r9 r12 : Nat}

/-- What a call of 'around' knows. -/
structure WK2 (w0 : World) (N0 rS rC rO : Nat) (w : World) (r8 r9 r12 : Nat) : Prop extends RK w0 N0 rS rC rO where
  big : N0 ≤ w.heap.size
  w0w : w0.heap.size ≤ w.heap.size
  g8 : w.heap.size ≤ r8
  g9 : w.heap.size ≤ r9
  g12 : w.heap.size ≤ r12
  d8 : r8 ≠ r12
  d9 : r9 ≠ r12

set_option maxHeartbeats 1000000 in
theorem endloop_c {Rt' : Rt} {J1 J2 J3 : Int → World → Prop} (hK : WK2 w0 N0 rS rC rO w r8 r9 r12) (hn : n ≤ 1000) {x y : ByteArray} (hy : y ∈ (getD (R.map RP.dat) x).2) {n14 n15 n16 : Int} {s q : Nat} (hq : q < 16) (hs : s + 2 ≤ n) {fi fr g : Nat → Int} {Seen : Int → Int → Prop} {r19 r23 : Nat} {w1 : World}
    (hW : WI R w0 N0 rS rC rO sp sn O w k room n r8 r9 r12 w1 g) (h19 : w1.heap[r19]? = some (.cells (arrC fi) 77)) (h23 : w1.heap[r23]? = some (.cells (arrC fr) 77)) (d19 : r19 ≠ r12) (d23 : r23 ≠ r12)
    (hI : Inv (R.map RP.dat) x room n Seen g) (hin : Bst (Cl (R.map RP.dat) y (En (R.map RP.dat) y room).1 s q) (fi q)) (hne : fi q ≠ never) (hrest : ∀ e : Nat, e < 16 → Bst (Cl (R.map RP.dat) x (En (R.map RP.dat) x q).1 (n - s - 2) e) (fr e))
    (hJ : ∀ (w2 : World) (g2 : Nat → Int), WI R w0 N0 rS rC rO sp sn O w k room n r8 r9 r12 w2 g2 → w2.heap[r19]? = some (.cells (arrC fi) 77) → Inv (R.map RP.dat) x room n (fun e c => Seen e c ∨ Cand (R.map RP.dat) n x room y s q e c) g2 → J3 (IntKind.i64.wrap ((q : Int) + 1)) w2) :
    F110_7 Rt' J1 J2 J3 (some ⟨rS, 0, none⟩) (k : Int) room (n : Int) (some ⟨r8, 0, none⟩) (some ⟨r9, 0, none⟩) (some ⟨r12, 0, none⟩) n14 n15 n16 (En (R.map RP.dat) y room).2 (s : Int) (some ⟨r19, 0, none⟩) (q : Int) (En (R.map RP.dat) x q).2 (some ⟨r23, 0, none⟩) 0 [] w1 := by
  have b1 := enter_one (getD (R.map RP.dat) y).1 room
  have b2 := enter_one (getD (R.map RP.dat) x).1 q
  have hreal := hin.real hne
  have b3 := hreal.bounds
  refine loopUp 16 (fun e t w2 => t = (e : Int) ∧ w2.heap[r19]? = some (.cells (arrC fi) 77) ∧ w2.heap[r23]? = some (.cells (arrC fr) 77) ∧ ∃ g2, WI R w0 N0 rS rC rO sp sn O w k room n r8 r9 r12 w2 g2 ∧ Inv (R.map RP.dat) x room n (fun e2 c => Seen e2 c ∨ (e2 < e ∧ Cand (R.map RP.dat) n x room y s q e2 c)) g2)
    ⟨rfl, h19, h23, g, hW, hI.mono fun e c h => h.resolve_right fun h => by have := h.1; omega⟩ ?_
  rintro e J t w2 he ⟨rfl, i19, i23, g2, W2, I2⟩ hJ4
  have hnv : never = -1073741824 := rfl
  refine Br.of (fun hlt => ?_) (fun hge => ?_)
  · have hlt : e < 16 := by have := dtrue hlt; omega
    have hr := hrest e hlt
    refine ⟨by omega, by omega, fr e, arr_cell i23 hlt, Br.of (fun h1 => ?_) (fun h1 => ?_)⟩
    · have h1 : fr e ≠ never := by simpa using h1
      have hcl := hr.real h1
      have b4 := hcl.bounds
      refine dwE_intro fun w3 hp3 hh3 => ?_
      have W3 := W2.pu hp3
      have j19 := hp3.blk i19
      have j23 := hp3.blk i23
      have hg := (I2 e hlt).2
      have hgb : -1073741824 ≤ g2 e ∧ g2 e ≤ 1000 := by
        rcases hg with h | h
        · omega
        · have := h.bounds; omega
      refine ⟨by omega, by omega, g2 e, arr_cell W3.c12 hlt, by omega, by omega, fi q, arr_cell j19 hq, by omega, by omega, fr e, arr_cell j23 hlt, _, w3, max_run _ _ _ _ _ _, by omega, by omega, ?_⟩
      simp only [En]
      rw [wrap_in (n := (enterR (getD (R.map RP.dat) y).1 (room, 0)).2 + fi q) (by omega) (by omega), wrap_in (n := (enterR (getD (R.map RP.dat) y).1 (room, 0)).2 + fi q + (enterR (getD (R.map RP.dat) x).1 ((q : Int), 0)).2) (by omega) (by omega), wrap_in (n := (enterR (getD (R.map RP.dat) y).1 (room, 0)).2 + fi q + (enterR (getD (R.map RP.dat) x).1 ((q : Int), 0)).2 + fr e) (by omega) (by omega)]
      rw [arr_addr]
      refine st1_intro W3.c12 hlt fun w4 hw4 hb4 => ?_
      rw [wrap_in (by omega) (by omega)]
      have hf4 : Fr (· = r12) w3 w4 := by rw [hw4]; exact Fr.cell w3 _ _ _
      have W4 := W3.set hlt (max (g2 e) ((enterR (getD (R.map RP.dat) y).1 (room, 0)).2 + fi q + (enterR (getD (R.map RP.dat) x).1 ((q : Int), 0)).2 + fr e)) (Nat.lt_of_lt_of_le hK.nC hK.big) (Nat.lt_of_lt_of_le hK.nO hK.big) (Nat.lt_of_lt_of_le hK.nS hK.big) hK.big hK.g12 hK.w0w hK.d8 hK.d9
      rw [← hw4] at W4
      refine hJ4 _ _ hlt ⟨rfl, hf4.blk j19 d19, hf4.blk j23 d23, _, W4, fun e2 he2 => ?_⟩
      have hnew : Cl (R.map RP.dat) x room n e ((enterR (getD (R.map RP.dat) y).1 (room, 0)).2 + fi q + (enterR (getD (R.map RP.dat) x).1 ((q : Int), 0)).2 + fr e) := Cand.cl ⟨fi q, fr e, hs, hreal, hcl, rfl⟩ hy
      by_cases h2 : e2 = e
      · subst h2
        simp only [setF, if_true]
        refine ⟨fun c hc => ?_, .inr ?_⟩
        · rcases hc with hc | ⟨_, hc⟩
          · have := (I2 e2 he2).1 c (.inl hc); omega
          · obtain ⟨c1, c2, _, k1, k2, rfl⟩ := hc
            have u1 := hin.1 _ k1
            have u2 := hr.1 _ k2
            simp only [En]
            omega
        · rcases hg with h | h
          · have := hnew.bounds
            rw [Int.max_eq_right (by omega)]; exact hnew
          · rcases Int.le_total (g2 e2) ((enterR (getD (R.map RP.dat) y).1 (room, 0)).2 + fi q + (enterR (getD (R.map RP.dat) x).1 ((q : Int), 0)).2 + fr e2) with h3 | h3
            · rw [Int.max_eq_right h3]; exact hnew
            · rw [Int.max_eq_left h3]; exact h
      · simp only [setF, if_neg h2]
        refine ⟨fun c hc => (I2 e2 he2).1 c ?_, (I2 e2 he2).2⟩
        rcases hc with hc | ⟨hlt2, hc⟩
        · exact .inl hc
        · exact .inr ⟨by omega, hc⟩
    · have h1 : fr e = never := by simpa using h1
      show J _ _
      rw [wrap_in (by omega) (by omega)]
      refine hJ4 _ _ hlt ⟨rfl, i19, i23, g2, W2, I2.mono fun e2 c hc => ?_⟩
      rcases hc with hc | ⟨hlt2, hc⟩
      · exact .inl hc
      · by_cases h2 : e2 = e
        · subst h2
          obtain ⟨c1, c2, _, k1, k2, _⟩ := hc
          exact absurd k2 (hr.none' h1 c2)
        · exact .inr ⟨by omega, hc⟩
  · have hge := dfalse hge
    refine hJ w2 g2 W2 i19 fun e2 he2 => ⟨fun c hc => (I2 e2 he2).1 c ?_, (I2 e2 he2).2⟩
    rcases hc with hc | hc
    · exact .inl hc
    · exact .inr ⟨by omega, hc⟩
end
end Go.Proofs.Ytcnenlmhbpijlaa

/- Link: the reference's 'around': its other loops. No condition. -/
set_option maxRecDepth 100000
set_option linter.unusedVariables false
set_option linter.unusedSimpArgs false
namespace Go.Proofs.Ytcnenlmhbpijlaa
open Go.Sh Go.RowKit

def AroundC (R : List RP) (w0 : World) (N0 rS rC rO : Nat) (sp sn : SV) (n : Nat) : Prop := ∀ (k : Nat) (r : RP) (room : Int) (w : World) (C : List (K3 × (Nat → Int))) (O : List (K3 × Int)), R[k]? = some r → 0 ≤ room ∧ room ≤ 15 → RSt R w0 N0 rS rC rO sp sn w C O →
  Calls Try.prog 110 #[.pointer (some ⟨rS, 0, none⟩), .int .i64 (k : Int), .int .i64 room, .int .i64 (n : Int)] w fun e w' => ∃ f, e = .returned (evA f) ∧ (∀ e : Nat, e < 16 → Bst (Cl (R.map RP.dat) r.name room n e) (f e)) ∧ ∃ C', RSt R w0 N0 rS rC rO sp sn w' C' O ∧ Fr (· = rC) w w'

section
variable {R : List RP} {w0 : World} {N0 rS rC rO : Nat} {sp sn : SV} {O : List (K3 × Int)} {w : World} {k : Nat} {room : Int} {n r8 r9 r12 : Nat}

theorem WI.lt {w1 : World} {g : Nat → Int} (h : WI R w0 N0 rS rC rO sp sn O w k room n r8 r9 r12 w1 g) : r12 < w1.heap.size := blk_lt h.c12

set_option maxHeartbeats 1000000 in
theorem rloop_c {Rt' : Rt} {J1 J2 : Int → World → Prop} (hC : RCtx w0 R sp) (hK : WK2 w0 N0 rS rC rO w r8 r9 r12) (hn : n ≤ 1000) (ih : ∀ m, m < n → AroundC R w0 N0 rS rC rO sp sn m) {rx : RP} (hx : R[k]? = some rx) {y : ByteArray} (hy : y ∈ (getD (R.map RP.dat) rx.name).2) {n14 n15 n16 : Int} {s : Nat} (hs : s + 2 ≤ n) {fi g : Nat → Int} {Seen : Int → Int → Prop} {r19 : Nat} {w1 : World}
    (hroom : 0 ≤ room ∧ room ≤ 15) (hW : WI R w0 N0 rS rC rO sp sn O w k room n r8 r9 r12 w1 g) (h19 : w1.heap[r19]? = some (.cells (arrC fi) 77)) (d19 : r19 ≠ r12) (c19 : r19 ≠ rC)
    (hI : Inv (R.map RP.dat) rx.name room n Seen g) (hin : ∀ q : Nat, q < 16 → Bst (Cl (R.map RP.dat) y (En (R.map RP.dat) y room).1 s q) (fi q))
    (hJ : ∀ (w2 : World) (g2 : Nat → Int), WI R w0 N0 rS rC rO sp sn O w k room n r8 r9 r12 w2 g2 → Inv (R.map RP.dat) rx.name room n (fun e c => Seen e c ∨ ∃ q : Int, Cand (R.map RP.dat) n rx.name room y s q e c) g2 → J2 (IntKind.i64.wrap ((s : Int) + 1)) w2) :
    F110_12 Rt' J1 J2 (some ⟨rS, 0, none⟩) (k : Int) room (n : Int) (some ⟨r8, 0, none⟩) (some ⟨r9, 0, none⟩) (some ⟨r12, 0, none⟩) n14 n15 n16 (En (R.map RP.dat) y room).2 (s : Int) (some ⟨r19, 0, none⟩) 0 [] w1 := by
  refine loopUp 16 (fun q t w2 => t = (q : Int) ∧ w2.heap[r19]? = some (.cells (arrC fi) 77) ∧ ∃ g2, WI R w0 N0 rS rC rO sp sn O w k room n r8 r9 r12 w2 g2 ∧ Inv (R.map RP.dat) rx.name room n (fun e c => Seen e c ∨ ∃ p : Int, p < q ∧ 0 ≤ p ∧ Cand (R.map RP.dat) n rx.name room y s p e c) g2)
    ⟨rfl, h19, g, hW, hI.mono fun e c h => h.resolve_right fun ⟨p, h1, h2, _⟩ => by omega⟩ ?_
  rintro q J t w2 hq ⟨rfl, i19, g2, W2, I2⟩ hJ3
  refine Br.of (fun hlt => ?_) (fun hge => ?_)
  · have hlt : q < 16 := by have := dtrue hlt; omega
    have hb := hin q hlt
    refine ⟨by omega, by omega, fi q, arr_cell i19 hlt, Br.of (fun h1 => ?_) (fun h1 => ?_)⟩
    · have h1 : fi q = never := by simpa using h1
      show J _ _
      rw [wrap_in (by omega) (by omega)]
      refine hJ3 _ _ hlt ⟨rfl, i19, g2, W2, I2.mono fun e c hc => ?_⟩
      rcases hc with hc | ⟨p, hp, hp0, hc⟩
      · exact .inl hc
      · by_cases h2 : p = q
        · subst h2
          obtain ⟨c1, c2, _, k1, k2, _⟩ := hc
          exact absurd k1 (hb.none' h1 c1)
        · exact .inr ⟨p, by omega, hp0, hc⟩
    · have h1 : fi q ≠ never := by simpa using h1
      obtain ⟨C2, S2⟩ := W2.st
      refine Calls.mono (enter88_c hC S2 hx q) ?_
      rintro e w2' ⟨rfl, rfl⟩
      refine ⟨_, _, rfl, ?_⟩
      rw [wrap_in (n := (n : Int) - (s : Int)) (by omega) (by omega), wrap_in (by omega) (by omega), show (n : Int) - (s : Int) - 2 = ((n - s - 2 : Nat) : Int) by omega]
      refine Calls.mono (ih (n - s - 2) (by omega) k rx (En (R.map RP.dat) rx.name q).1 w2' C2 O hx (En_room hC.ov _ (by omega)) S2) ?_
      rintro e w3 ⟨fr, rfl, hfr, C3, S3, hf3⟩
      refine ⟨fr 0, fr 1, fr 2, fr 3, fr 4, fr 5, fr 6, fr 7, fr 8, fr 9, fr 10, fr 11, fr 12, fr 13, fr 14, fr 15, rfl, ?_⟩
      have hbw := hK.big
      have hnC := hK.nC
      have hg8 := hK.g8
      have hg9 := hK.g9
      have hg12 := hK.g12
      have W3 := W2.call hf3 S3 (by omega) (by omega) (by omega)
      have l12 := W3.lt
      refine boxA (by rfl) (by kernel_rfl) (by rfl) fun w4 hp4 hs4 hb4 => ?_
      have W4 := W3.pu hp4
      have j19 := hp4.blk (hf3.blk i19 c19)
      refine endloop_c hK hn hy hlt hs W4 j19 hb4 d19 (by omega) I2 hb h1 hfr ?_
      intro w5 g5 W5 k19 I5
      rw [wrap_in (by omega) (by omega)]
      refine hJ3 _ _ hlt ⟨rfl, k19, g5, W5, I5.mono fun e c hc => ?_⟩
      rcases hc with hc | ⟨p, hp, hp0, hc⟩
      · exact .inl (.inl hc)
      · by_cases h2 : p = q
        · subst h2; exact .inr hc
        · exact .inl (.inr ⟨p, by omega, hp0, hc⟩)
  · have hge := dfalse hge
    refine hJ w2 g2 W2 (I2.mono fun e c hc => ?_)
    rcases hc with hc | ⟨p, hc⟩
    · exact .inl hc
    · have hc2 := hc
      obtain ⟨c1, c2, _, k1, k2, _⟩ := hc2
      have := k1.room hC.ov (En_room hC.ov y hroom)
      exact .inr ⟨p, by omega, this.1, hc⟩

set_option maxHeartbeats 1000000 in
theorem sloop_c {Rt' : Rt} {J1 : Int → World → Prop} (hC : RCtx w0 R sp) (hK : WK2 w0 N0 rS rC rO w r8 r9 r12) (hn : n ≤ 1000) (ih : ∀ m, m < n → AroundC R w0 N0 rS rC rO sp sn m) {rx : RP} (hx : R[k]? = some rx) {ky : Nat} {ry : RP} (hky : R[ky]? = some ry) (hy : ry.name ∈ (getD (R.map RP.dat) rx.name).2) {j : Nat} {g : Nat → Int} {Seen : Int → Int → Prop} {w1 : World}
    (hroom : 0 ≤ room ∧ room ≤ 15) (hW : WI R w0 N0 rS rC rO sp sn O w k room n r8 r9 r12 w1 g)
    (hI : Inv (R.map RP.dat) rx.name room n Seen g)
    (hJ : ∀ (w2 : World) (g2 : Nat → Int), WI R w0 N0 rS rC rO sp sn O w k room n r8 r9 r12 w2 g2 → Inv (R.map RP.dat) rx.name room n (fun e c => Seen e c ∨ ∃ (s : Nat) (q : Int), Cand (R.map RP.dat) n rx.name room ry.name s q e c) g2 → J1 (IntKind.i64.wrap ((j : Int) + 1)) w2) :
    F110_17 Rt' J1 (some ⟨rS, 0, none⟩) (k : Int) room (n : Int) (some ⟨r8, 0, none⟩) (some ⟨r9, 0, none⟩) (some ⟨r12, 0, none⟩) (j : Int) (ky : Int) (En (R.map RP.dat) ry.name room).1 (En (R.map RP.dat) ry.name room).2 0 [] w1 := by
  refine loopUp n (fun s t w2 => t = (s : Int) ∧ ∃ g2, WI R w0 N0 rS rC rO sp sn O w k room n r8 r9 r12 w2 g2 ∧ Inv (R.map RP.dat) rx.name room n (fun e c => Seen e c ∨ ∃ (s' : Nat) (q : Int), s' < s ∧ Cand (R.map RP.dat) n rx.name room ry.name s' q e c) g2)
    ⟨rfl, g, hW, hI.mono fun e c h => h.resolve_right fun ⟨s', q, h1, _⟩ => by omega⟩ ?_
  rintro s J t w2 hsn ⟨rfl, g2, W2, I2⟩ hJ2
  refine Br.of (fun hlt => ?_) (fun hge => ?_)
  · have hlt := dtrue hlt
    rw [wrap_in (by omega) (by omega)] at hlt
    have hs : s + 2 ≤ n := by omega
    obtain ⟨C2, S2⟩ := W2.st
    refine Calls.mono (ih s (by omega) ky ry (En (R.map RP.dat) ry.name room).1 w2 C2 O hky (En_room hC.ov _ hroom) S2) ?_
    rintro e w3 ⟨fi, rfl, hfi, C3, S3, hf3⟩
    refine ⟨fi 0, fi 1, fi 2, fi 3, fi 4, fi 5, fi 6, fi 7, fi 8, fi 9, fi 10, fi 11, fi 12, fi 13, fi 14, fi 15, rfl, ?_⟩
    have hbw := hK.big
    have hnC := hK.nC
    have hg8 := hK.g8
    have hg9 := hK.g9
    have hg12 := hK.g12
    have W3 := W2.call hf3 S3 (by omega) (by omega) (by omega)
    have l12 := W3.lt
    refine boxA (by rfl) (by kernel_rfl) (by rfl) fun w4 hp4 hs4 hb4 => ?_
    have W4 := W3.pu hp4
    refine rloop_c hC hK hn ih hx hy hs hroom W4 hb4 (by omega) (by omega) I2 hfi ?_
    intro w5 g5 W5 I5
    rw [wrap_in (by omega) (by omega)]
    refine hJ2 _ _ (by omega) ⟨rfl, g5, W5, I5.mono fun e c hc => ?_⟩
    rcases hc with hc | ⟨s', q, hs', hc⟩
    · exact .inl (.inl hc)
    · by_cases h2 : s' = s
      · subst h2; exact .inr ⟨q, hc⟩
      · exact .inl (.inr ⟨s', q, by omega, hc⟩)
  · have hge := dfalse hge
    rw [wrap_in (by omega) (by omega)] at hge
    refine hJ w2 g2 W2 (I2.mono fun e c hc => ?_)
    rcases hc with hc | ⟨s', q, hc⟩
    · exact .inl hc
    · have hc2 := hc
      obtain ⟨c1, c2, hs', _⟩ := hc2
      exact .inr ⟨s', q, by omega, hc⟩
end
end Go.Proofs.Ytcnenlmhbpijlaa

/- Link: the reference's 'around'. No condition. -/
set_option maxRecDepth 100000
set_option linter.unusedVariables false
set_option linter.unusedSimpArgs false
namespace Go.Proofs.Ytcnenlmhbpijlaa
open Go.Sh Go.RowKit

theorem int_nat {z : Int} (h : 0 ≤ z) : ∃ m : Nat, z = (m : Int) := ⟨z.toNat, by omega⟩
section
variable {R : List RP} {w0 : World} {N0 rS rC rO : Nat} {sp sn : SV}

theorem RSt.put {w w' : World} {C : List (K3 × (Nat → Int))} {O : List (K3 × Int)} (S : RSt R w0 N0 rS rC rO sp sn w C O) (hK : RK w0 N0 rS rC rO) {k : Nat} {room : Int} {n : Nat} {r : RP} {f : Nat → Int} (hr : R[k]? = some r) (hf : ∀ e : Nat, e < 16 → Bst (Cl (R.map RP.dat) r.name room n e) (f e))
    (hm : MapAt w' ek3 evA rC (AL.put C ((k : Int), room, (n : Int)) f)) (hw : Fr (· = rC) w w') : RSt R w0 N0 rS rC rO sp sn w' (AL.put C ((k : Int), room, (n : Int)) f) O := by
  have h1 := hK.hC
  have h2 := hK.SC
  have h3 := hK.CO
  refine ⟨Pu.andNew S.pu hw fun i hi => by omega, Nat.le_trans S.big hw.size, hw.blk S.c h2, S.nx.fr hw fun i hi hx => hi.2.1 hx, hm, S.mo.fr hw (fun e => h3 e.symm), fun k' room' n' r' f' hg hr' hroom e he => ?_, S.oko⟩
  rw [AL.get_put] at hg
  split at hg
  · rename_i heq
    simp only [Prod.mk.injEq] at heq
    obtain ⟨e1, e2, e3⟩ := heq
    have e1 : k = k' := by omega
    have e3 : n = n' := by omega
    subst e1; subst e2; subst e3
    have : r = r' := Option.some.inj (hr.symm.trans hr')
    subst this
    have : f = f' := Option.some.inj hg
    subst this
    exact hf e he
  · exact S.okc k' room' n' r' f' hg hr' hroom e he

set_option maxHeartbeats 2000000 in
theorem around_step (hC : RCtx w0 R sp) (hK : RK w0 N0 rS rC rO) (n : Nat) (hn : n ≤ 1000) (ih : ∀ m, m < n → AroundC R w0 N0 rS rC rO sp sn m) : AroundC R w0 N0 rS rC rO sp sn n := by
  intro k rx room w C O hx hroom S
  obtain ⟨rm, rfl⟩ := int_nat hroom.1
  have hrm : rm < 16 := by omega
  have hbw := S.big
  have hnC := hK.nC
  have hnO := hK.nO
  have hnS := hK.nS
  have h0w := S.pu.size
  refine F110_calls _ _ _ _ w _ ?_
  refine alE_intro fun w1 hw1 => ?_
  have hp1 : Pu w w1 := by rw [hw1]; exact Pu.alloc w _
  have z1 : w1.heap.size = w.heap.size + 1 := by rw [hw1]; simp
  have hb8 : w1.heap[w.heap.size]? = some (.cells (arrC fun _ => 0) 77) := by rw [hw1]; exact alloc_new w _
  refine boxA (by rfl) (by kernel_rfl) (by rfl) fun w2 hp2 z2 hb9 => ?_
  refine dwE_intro fun w3 hp3 hh3 => ?_
  have z3 : w3.heap.size = w2.heap.size := by rw [hh3]
  have hp23 := hp2.trans hp3
  have hb9 := hp3.blk hb9
  have hb8 := hp23.blk hb8
  have S3 := S.pu' (hp1.trans hp23)
  refine ⟨fun w' => w'.heap[rS]? = some (.cells #[.slice sp.a sp.len sp.cap, .slice sn.a sn.len sn.cap, .map (some rC), .map (some rO)] 116) ∧ w'.heap[w1.heap.size]? = some (.cells #[.int .i64 (k : Int), .int .i64 (rm : Int), .int .i64 (n : Int)] 130) ∧ MapAt w' ek3 evA rC C,
    ⟨S3.c, hb9, S3.mc⟩, some rC, fun w' h => by rw [add_def, cell_blk h.1]; rfl, (k : Int), fun w' h => by rw [add_def, cell_blk h.2.1]; rfl, (rm : Int), fun w' h => by rw [add_def, cell_blk h.2.1]; rfl, (n : Int), fun w' h => by rw [add_def, cell_blk h.2.1]; rfl, ?_⟩
  obtain ⟨f0, hf0⟩ : ∃ f0, f0 = (AL.get C ((k : Int), (rm : Int), (n : Int))).getD fun _ => 0 := ⟨_, rfl⟩
  refine ⟨f0 0, f0 1, f0 2, f0 3, f0 4, f0 5, f0 6, f0 7, f0 8, f0 9, f0 10, f0 11, f0 12, f0 13, f0 14, f0 15, (AL.get C ((k : Int), (rm : Int), (n : Int))).isSome, fun w' h => by have := look112 h.2.2 ((k : Int), (rm : Int), (n : Int)); rw [← hf0] at this; exact this, ?_⟩
  refine alE_intro fun w4 hw4 => ?_
  have hp4 : Pu w3 w4 := by rw [hw4]; exact Pu.alloc w3 _
  have z4 : w4.heap.size = w3.heap.size + 1 := by rw [hw4]; simp
  have hb10 : w4.heap[w3.heap.size]? = some (.cells (arrC fun _ => 0) 77) := by rw [hw4]; exact alloc_new w3 _
  have S4 := S3.pu' hp4
  refine ⟨⟨S4.c, hp4.blk hb9, S4.mc⟩, ?_⟩
  refine stA_fill hb10 (by kernel_rfl) (by rfl) (by rfl) fun w5 hb10 hf5 z5 => ?_
  have hp5 : Pu w3 w5 := Pu.andNew hp4 hf5 fun i hi => by omega
  have hP5 : Pu w w5 := (hp1.trans hp23).trans hp5
  have S5 := S3.pu' hp5
  have hb8 := hp5.blk hb8
  have hb9 := hp5.blk hb9
  -- the end: the result is handed back
  have ret : ∀ (w6 : World) (f : Nat → Int) (C' : List (K3 × (Nat → Int))), (∀ e : Nat, e < 16 → Bst (Cl (R.map RP.dat) rx.name (rm : Int) n e) (f e)) → RSt R w0 N0 rS rC rO sp sn w6 C' O → Fr (fun i => i = rC ∨ w.heap.size ≤ i) w w6 → w6.heap[w.heap.size]? = some (.cells (arrC fun _ => 0) 77) →
      stA Try.prog 77 (⟨w.heap.size, 0, none⟩ : Addr) (arrC f) w6 fun w44 => runD Try.prog [] w44 fun w45 =>
        ∃ nR0_0 : Int, w45.cell? ((⟨w.heap.size, 0, none⟩ : Addr).add 0) = some (.int .i64 nR0_0) ∧
        ∃ nR0_1 : Int, w45.cell? ((⟨w.heap.size, 0, none⟩ : Addr).add 1) = some (.int .i64 nR0_1) ∧
        ∃ nR0_2 : Int, w45.cell? ((⟨w.heap.size, 0, none⟩ : Addr).add 2) = some (.int .i64 nR0_2) ∧
        ∃ nR0_3 : Int, w45.cell? ((⟨w.heap.size, 0, none⟩ : Addr).add 3) = some (.int .i64 nR0_3) ∧
        ∃ nR0_4 : Int, w45.cell? ((⟨w.heap.size, 0, none⟩ : Addr).add 4) = some (.int .i64 nR0_4) ∧
        ∃ nR0_5 : Int, w45.cell? ((⟨w.heap.size, 0, none⟩ : Addr).add 5) = some (.int .i64 nR0_5) ∧
        ∃ nR0_6 : Int, w45.cell? ((⟨w.heap.size, 0, none⟩ : Addr).add 6) = some (.int .i64 nR0_6) ∧
        ∃ nR0_7 : Int, w45.cell? ((⟨w.heap.size, 0, none⟩ : Addr).add 7) = some (.int .i64 nR0_7) ∧
        ∃ nR0_8 : Int, w45.cell? ((⟨w.heap.size, 0, none⟩ : Addr).add 8) = some (.int .i64 nR0_8) ∧
        ∃ nR0_9 : Int, w45.cell? ((⟨w.heap.size, 0, none⟩ : Addr).add 9) = some (.int .i64 nR0_9) ∧
        ∃ nR0_10 : Int, w45.cell? ((⟨w.heap.size, 0, none⟩ : Addr).add 10) = some (.int .i64 nR0_10) ∧
        ∃ nR0_11 : Int, w45.cell? ((⟨w.heap.size, 0, none⟩ : Addr).add 11) = some (.int .i64 nR0_11) ∧
        ∃ nR0_12 : Int, w45.cell? ((⟨w.heap.size, 0, none⟩ : Addr).add 12) = some (.int .i64 nR0_12) ∧
        ∃ nR0_13 : Int, w45.cell? ((⟨w.heap.size, 0, none⟩ : Addr).add 13) = some (.int .i64 nR0_13) ∧
        ∃ nR0_14 : Int, w45.cell? ((⟨w.heap.size, 0, none⟩ : Addr).add 14) = some (.int .i64 nR0_14) ∧
        ∃ nR0_15 : Int, w45.cell? ((⟨w.heap.size, 0, none⟩ : Addr).add 15) = some (.int .i64 nR0_15) ∧
        (∃ g : Nat → Int, Ending.returned (.agg #[.int .i64 nR0_0, .int .i64 nR0_1, .int .i64 nR0_2, .int .i64 nR0_3, .int .i64 nR0_4, .int .i64 nR0_5, .int .i64 nR0_6, .int .i64 nR0_7, .int .i64 nR0_8, .int .i64 nR0_9, .int .i64 nR0_10, .int .i64 nR0_11, .int .i64 nR0_12, .int .i64 nR0_13, .int .i64 nR0_14, .int .i64 nR0_15]) = Ending.returned (evA g) ∧ (∀ e : Nat, e < 16 → Bst (Cl (R.map RP.dat) rx.name (rm : Int) n e) (g e)) ∧ ∃ C', RSt R w0 N0 rS rC rO sp sn w45 C' O ∧ Fr (· = rC) w w45) := fun w6 f C' hB S6 hf6 h8 => by
    refine stA_fill h8 (by kernel_rfl) (by rfl) (by rfl) fun w7 hb7 hf7 z7 => ?_
    have hfr : Fr (fun i => i = rC ∨ w.heap.size ≤ i) w w7 := hf6.trans hf7 fun i hi _ => .inr (by omega)
    refine ⟨f 0, by rw [add_def, cell_blk hb7]; rfl, f 1, by rw [add_def, cell_blk hb7]; rfl, f 2, by rw [add_def, cell_blk hb7]; rfl, f 3, by rw [add_def, cell_blk hb7]; rfl, f 4, by rw [add_def, cell_blk hb7]; rfl, f 5, by rw [add_def, cell_blk hb7]; rfl, f 6, by rw [add_def, cell_blk hb7]; rfl, f 7, by rw [add_def, cell_blk hb7]; rfl, f 8, by rw [add_def, cell_blk hb7]; rfl, f 9, by rw [add_def, cell_blk hb7]; rfl, f 10, by rw [add_def, cell_blk hb7]; rfl, f 11, by rw [add_def, cell_blk hb7]; rfl, f 12, by rw [add_def, cell_blk hb7]; rfl, f 13, by rw [add_def, cell_blk hb7]; rfl, f 14, by rw [add_def, cell_blk hb7]; rfl, f 15, by rw [add_def, cell_blk hb7]; rfl, f, rfl, hB, C', ?_, hfr.mono fun i hi hlt => by omega⟩
    have h1 := hK.hC
    exact ⟨Pu.andNew S6.pu hf7 fun i hi => by omega, Nat.le_trans S6.big hf7.size, hf7.blk S6.c (by omega), S6.nx.fr hf7 fun i hi hx => by omega, S6.mc.fr hf7 (by omega), S6.mo.fr hf7 (by omega), S6.okc, S6.oko⟩
  refine Br.of (fun h1 => ?_) (fun h1 => ?_)
  · obtain ⟨f, hf⟩ := Option.isSome_iff_exists.1 h1
    have : f0 = f := by rw [hf0, hf]; rfl
    subst this
    refine ⟨f0 0, by rw [add_def, cell_blk hb10]; rfl, f0 1, by rw [add_def, cell_blk hb10]; rfl, f0 2, by rw [add_def, cell_blk hb10]; rfl, f0 3, by rw [add_def, cell_blk hb10]; rfl, f0 4, by rw [add_def, cell_blk hb10]; rfl, f0 5, by rw [add_def, cell_blk hb10]; rfl, f0 6, by rw [add_def, cell_blk hb10]; rfl, f0 7, by rw [add_def, cell_blk hb10]; rfl, f0 8, by rw [add_def, cell_blk hb10]; rfl, f0 9, by rw [add_def, cell_blk hb10]; rfl, f0 10, by rw [add_def, cell_blk hb10]; rfl, f0 11, by rw [add_def, cell_blk hb10]; rfl, f0 12, by rw [add_def, cell_blk hb10]; rfl, f0 13, by rw [add_def, cell_blk hb10]; rfl, f0 14, by rw [add_def, cell_blk hb10]; rfl, f0 15, by rw [add_def, cell_blk hb10]; rfl, ?_⟩
    exact ret w5 f0 C (S.okc k rm n rx f0 hf hx hroom) S5 (Fr.pu hP5) hb8
  -- nothing is known
  refine alE_intro fun w6 hw6 => ?_
  have hp6 : Pu w5 w6 := by rw [hw6]; exact Pu.alloc w5 _
  have z6 : w6.heap.size = w5.heap.size + 1 := by rw [hw6]; simp
  have hb12 : w6.heap[w5.heap.size]? = some (.cells (arrC fun _ => 0) 77) := by rw [hw6]; exact alloc_new w5 _
  have s5 := hP5.size
  have hk2 : WK2 w0 N0 rS rC rO w w.heap.size w1.heap.size w5.heap.size := { hK with big := hbw, w0w := h0w, g8 := Nat.le_refl _, g9 := by omega, g12 := by omega, d8 := by omega, d9 := by omega }
  have W6 : WI R w0 N0 rS rC rO sp sn O w k (rm : Int) n w.heap.size w1.heap.size w5.heap.size w6 fun _ => 0 := ⟨⟨C, S5.pu' hp6⟩, Fr.pu (hP5.trans hp6), hp6.blk hb8, hp6.blk hb9, hb12⟩
  have setW : ∀ {w' w'' : World} {g : Nat → Int} {e : Nat} {v : Int}, WI R w0 N0 rS rC rO sp sn O w k (rm : Int) n w.heap.size w1.heap.size w5.heap.size w' g → e < 16 → w'' = w'.setCell ⟨w5.heap.size, e, none⟩ (.int .i64 v) → WI R w0 N0 rS rC rO sp sn O w k (rm : Int) n w.heap.size w1.heap.size w5.heap.size w'' (setF g e v) := fun h he hw => by
    rw [hw]
    exact h.set he _ (by omega) (by omega) (by omega) hbw (by omega) h0w (by omega) (by omega)
  have hnv : never = -1073741824 := rfl
  refine loopUp 16 (fun t z w' => z = (t : Int) ∧ ∃ g, WI R w0 N0 rS rC rO sp sn O w k (rm : Int) n w.heap.size w1.heap.size w5.heap.size w' g ∧ ∀ i, i < t → g i = never) ⟨rfl, _, W6, fun i hi => by omega⟩ ?_
  rintro t J z w7 ht ⟨rfl, g, W7, hg⟩ hJ
  refine Br.of (fun hlt => ?_) (fun hge => ?_)
  · have hlt : t < 16 := by have := dtrue hlt; omega
    refine ⟨by omega, by omega, ?_⟩
    rw [arr_addr]
    refine st1_intro W7.c12 hlt fun w8 hw8 hb8' => ?_
    rw [wrap_in (by omega) (by omega)]
    refine hJ _ _ hlt ⟨rfl, _, setW W7 hlt hw8, fun i hi => ?_⟩
    simp only [setF]
    split
    · rfl
    · exact hg i (by omega)
  have hge := dfalse hge
  have ht16 : t = 16 := by omega
  subst ht16
  -- the rounds
  have rounds : ∀ (w8 : World) (g8 : Nat → Int), WI R w0 N0 rS rC rO sp sn O w k (rm : Int) n w.heap.size w1.heap.size w5.heap.size w8 g8 → Inv (R.map RP.dat) rx.name (rm : Int) n (fun e c => n = 0 ∧ e = (rm : Int) ∧ c = 0) g8 →
      F110_22 (fun e w' => ∃ f, e = Ending.returned (evA f) ∧ (∀ e : Nat, e < 16 → Bst (Cl (R.map RP.dat) rx.name (rm : Int) n e) (f e)) ∧ ∃ C', RSt R w0 N0 rS rC rO sp sn w' C' O ∧ Fr (· = rC) w w') (some ⟨rS, 0, none⟩) (k : Int) (rm : Int) (n : Int) (some ⟨w.heap.size, 0, none⟩) (some ⟨w1.heap.size, 0, none⟩) (some ⟨w5.heap.size, 0, none⟩) 0 [] w8 := fun w8 g8 W8 I8 => by
    have hdat := at_dat hC.nd hx
    have hcl : (getD (R.map RP.dat) rx.name).2 = rx.calls := by rw [hdat]
    have hNk : (nxt R)[k]? = some ((setS rx.calls).map (findS R)) := by simp [nxt, hx]
    refine loopUp (setS rx.calls).length (fun j z w' => z = (j : Int) ∧ ∃ g, WI R w0 N0 rS rC rO sp sn O w k (rm : Int) n w.heap.size w1.heap.size w5.heap.size w' g ∧ Inv (R.map RP.dat) rx.name (rm : Int) n (fun e c => (n = 0 ∧ e = (rm : Int) ∧ c = 0) ∨ ∃ (j' : Nat) (y : ByteArray) (s : Nat) (q : Int), j' < j ∧ (setS rx.calls)[j']? = some y ∧ Cand (R.map RP.dat) n rx.name (rm : Int) y s q e c) g)
      ⟨rfl, g8, W8, I8.mono fun e c h => h.resolve_right fun ⟨j', y, s, q, h1, _⟩ => by omega⟩ ?_
    rintro j J z w9 hj ⟨rfl, g9, W9, I9⟩ hJ
    obtain ⟨C9, S9⟩ := W9.st
    obtain ⟨a, t, ha, hka, hca, htl, htm, hels⟩ := S9.nx.get hNk
    have htl : t.len = (setS rx.calls).length := by simpa using htl
    have hml : maxLen = 9223372036854775807 := by unfold maxLen; omega
    have hca' : w9.cell? (a.add (((k : Nat) : Int).toNat * 1)) = some (.slice t.a t.len t.cap) := by rw [Int.toNat_natCast]; exact hca
    refine ⟨sn, by rw [add_def, cell_blk S9.c]; rfl, a, ha, by omega, by omega, t, hca', Br.of (fun hlt => ?_) (fun hge => ?_)⟩
    · have hlt : j < (setS rx.calls).length := by have := dtrue hlt; omega
      obtain ⟨y, hy⟩ := at_k hlt
      obtain ⟨a', ha', hc'⟩ := hels j (findS R y) (by simp [hy])
      have hym : y ∈ (getD (R.map RP.dat) rx.name).2 := by rw [hcl]; exact mem_setS.1 (List.mem_of_getElem? hy)
      obtain ⟨ky, ry, hfy, hky, hny, _⟩ := findS_at (hC.call _ _ hym)
      subst hny
      have hc' : w9.cell? (a'.add (((j : Nat) : Int).toNat * 1)) = some (.int .i64 (ky : Int)) := by rw [Int.toNat_natCast, ← hfy]; exact hc'
      refine ⟨sn, by rw [add_def, cell_blk S9.c]; rfl, a, ha, by omega, by omega, t, hca', a', ha', by omega, by omega, (ky : Int), hc', ?_⟩
      refine Calls.mono (enter88_c hC S9 hky (rm : Int)) ?_
      rintro e w9' ⟨rfl, rfl⟩
      refine ⟨_, _, rfl, ?_⟩
      refine sloop_c hC hk2 hn ih hx hky hym hroom W9 I9 fun w10 g10 W10 I10 => ?_
      rw [wrap_in (by omega) (by omega)]
      refine hJ _ _ hlt ⟨rfl, g10, W10, I10.mono fun e c hc => ?_⟩
      rcases hc with hc | ⟨j', y', s, q, hj', hy', hc⟩
      · exact .inl (.inl hc)
      · by_cases h2 : j' = j
        · subst h2
          have : ry.name = y' := Option.some.inj (hy.symm.trans hy')
          subst this
          exact .inr ⟨s, q, hc⟩
        · exact .inl (.inr ⟨j', y', s, q, by omega, hy', hc⟩)
    · have hge := dfalse hge
      have hB : ∀ e : Nat, e < 16 → Bst (Cl (R.map RP.dat) rx.name (rm : Int) n e) (g9 e) := fun e he => by
        refine ⟨fun c hc => (I9 e he).1 c ?_, (I9 e he).2⟩
        cases hc with
        | nil => exact .inl ⟨rfl, rfl, rfl⟩
        | @step _ y _ r _ c1 c2 s m hym k1 k2 =>
          rw [hcl] at hym
          obtain ⟨j', hj'l, hj'⟩ := List.getElem_of_mem (mem_setS.2 hym)
          refine .inr ⟨j', y, s, r, by omega, by rw [List.getElem?_eq_getElem hj'l, hj'], c1, c2, by omega, k1, ?_, rfl⟩
          rw [show s + 2 + m - s - 2 = m by omega]
          exact k2
      refine dwE_intro fun w10 hp10 hh10 => ?_
      have S10 := S9.pu' hp10
      have W10 := W9.pu hp10
      have hb9' := W10.c9
      have hb12' := W10.c12
      refine ⟨some rC, by rw [add_def, cell_blk S10.c]; rfl, (k : Int), by rw [add_def, cell_blk hb9']; rfl, (rm : Int), by rw [add_def, cell_blk hb9']; rfl, (n : Int), by rw [add_def, cell_blk hb9']; rfl, g9 0, by rw [add_def, cell_blk hb12']; rfl, g9 1, by rw [add_def, cell_blk hb12']; rfl, g9 2, by rw [add_def, cell_blk hb12']; rfl, g9 3, by rw [add_def, cell_blk hb12']; rfl, g9 4, by rw [add_def, cell_blk hb12']; rfl, g9 5, by rw [add_def, cell_blk hb12']; rfl, g9 6, by rw [add_def, cell_blk hb12']; rfl, g9 7, by rw [add_def, cell_blk hb12']; rfl, g9 8, by rw [add_def, cell_blk hb12']; rfl, g9 9, by rw [add_def, cell_blk hb12']; rfl, g9 10, by rw [add_def, cell_blk hb12']; rfl, g9 11, by rw [add_def, cell_blk hb12']; rfl, g9 12, by rw [add_def, cell_blk hb12']; rfl, g9 13, by rw [add_def, cell_blk hb12']; rfl, g9 14, by rw [add_def, cell_blk hb12']; rfl, g9 15, by rw [add_def, cell_blk hb12']; rfl, ?_⟩
      obtain ⟨w11, hrun, hm11, hf11, z11⟩ := put112 S10.mc ((k : Int), (rm : Int), (n : Int)) g9
      have hb12b := hf11.blk hb12' (by omega)
      refine ⟨w11, hrun, g9 0, by rw [add_def, cell_blk hb12b]; rfl, g9 1, by rw [add_def, cell_blk hb12b]; rfl, g9 2, by rw [add_def, cell_blk hb12b]; rfl, g9 3, by rw [add_def, cell_blk hb12b]; rfl, g9 4, by rw [add_def, cell_blk hb12b]; rfl, g9 5, by rw [add_def, cell_blk hb12b]; rfl, g9 6, by rw [add_def, cell_blk hb12b]; rfl, g9 7, by rw [add_def, cell_blk hb12b]; rfl, g9 8, by rw [add_def, cell_blk hb12b]; rfl, g9 9, by rw [add_def, cell_blk hb12b]; rfl, g9 10, by rw [add_def, cell_blk hb12b]; rfl, g9 11, by rw [add_def, cell_blk hb12b]; rfl, g9 12, by rw [add_def, cell_blk hb12b]; rfl, g9 13, by rw [add_def, cell_blk hb12b]; rfl, g9 14, by rw [add_def, cell_blk hb12b]; rfl, g9 15, by rw [add_def, cell_blk hb12b]; rfl, ?_⟩
      exact ret w11 g9 _ hB (S10.put hK hx hB hm11 hf11) (W10.fr.trans hf11 fun i hi _ => .inl hi) (hf11.blk W10.c8 (by omega))
  refine Br.of (fun h2 => ?_) (fun h2 => ?_)
  · have h2 : n = 0 := by have : (n : Int) = 0 := by simpa using h2
                          omega
    refine ⟨by omega, by omega, ?_⟩
    rw [arr_addr]
    refine st1_intro W7.c12 hrm fun w8 hw8 hb8' => ?_
    refine rounds w8 _ (setW W7 hrm hw8) fun e he => ?_
    simp only [setF]
    split
    · rename_i he2
      subst he2
      subst h2
      exact ⟨fun c hc => by omega, .inr .nil⟩
    · rename_i he2
      exact ⟨fun c hc => by omega, .inl (hg e he)⟩
  · have h2 : n ≠ 0 := by intro e; subst e; simp at h2
    exact rounds w7 g W7 fun e he => ⟨fun c hc => absurd hc.1 h2, .inl (hg e he)⟩

theorem around_c (hC : RCtx w0 R sp) (hK : RK w0 N0 rS rC rO) : ∀ n, n ≤ 1000 → AroundC R w0 N0 rS rC rO sp sn n := by
  intro n
  induction n using Nat.strongRecOn with
  | _ n ih => exact fun hn => around_step hC hK n hn fun m hm => ih m hm (by omega)
end
end Go.Proofs.Ytcnenlmhbpijlaa

/- Link: the reference's 'open'. No condition. -/
set_option maxRecDepth 100000
set_option linter.unusedVariables false
set_option linter.unusedSimpArgs false
namespace Go.Proofs.Ytcnenlmhbpijlaa
open Go.Sh Go.RowKit

theorem NxAt.stay {w : World} {s : SV} {N : List (List Int)} {B : Nat → Prop} (h : NxAt w s N B) {k : Nat} {l : List Int} (hl : N[k]? = some l) : ∃ (a : Addr) (t : SV), s.a = some a ∧ k < s.len ∧ t.len = l.length ∧ t.len ≤ maxLen ∧
    ∀ (C : Nat → Prop) (w' : World), Fr C w w' → (∀ i, B i → ¬ C i) → w'.cell? (a.add (k * 1)) = some (.slice t.a t.len t.cap) ∧ ∀ (j : Nat) n, l[j]? = some n → ∃ a', t.a = some a' ∧ w'.cell? (a'.add (j * 1)) = some (.int .i64 n) := by
  obtain ⟨ts, h1, h2, h3, h4⟩ := h
  have hk : k < ts.length := by rw [h2]; exact (List.getElem?_eq_some_iff.1 hl).1
  obtain ⟨t, ht⟩ := at_k hk
  obtain ⟨hr, hrB⟩ := h4 k t l ht hl
  obtain ⟨a, ha, hc, _⟩ := h1.cell (j := k) (v := .slice t.a t.len t.cap) (by simp [ht])
  have hl1 : s.len = ts.length := by have := h1.1; simp at this; omega
  have hl2 : t.len = l.length := by have := hr.1; simp at this; omega
  refine ⟨a, t, ha, by omega, hl2, Nat.le_trans hr.le_cap.1 hr.le_cap.2, fun C w' hf hd => ⟨?_, fun j n hn => ?_⟩⟩
  · obtain ⟨a2, ha2, hc2, _⟩ := (h1.fr hf fun i hi => hd i (h3 i hi)).cell (j := k) (v := .slice t.a t.len t.cap) (by simp [ht])
    rw [ha] at ha2; cases ha2
    simpa using hc2
  · obtain ⟨a', ha', hc', _⟩ := (hr.fr hf fun i hi => hd i (hrB i hi)).cell (j := j) (v := .int .i64 n) (by simp [hn])
    exact ⟨a', ha', by simpa using hc'⟩

def OpenC (R : List RP) (w0 : World) (N0 rS rC rO : Nat) (sp sn : SV) (n : Nat) : Prop := ∀ (k : Nat) (r : RP) (room : Int) (w : World) (C : List (K3 × (Nat → Int))) (O : List (K3 × Int)), R[k]? = some r → 0 ≤ room ∧ room ≤ 15 → RSt R w0 N0 rS rC rO sp sn w C O →
  Calls Try.prog 89 #[.pointer (some ⟨rS, 0, none⟩), .int .i64 (k : Int), .int .i64 room, .int .i64 (n : Int)] w fun e w' => ∃ v, e = .returned (.int .i64 v) ∧ ((∀ c, Op (R.map RP.dat) r.name room n c → c ≤ v) ∧ Op (R.map RP.dat) r.name room n v) ∧ ∃ C' O', RSt R w0 N0 rS rC rO sp sn w' C' O' ∧ Fr (fun i => i = rC ∨ i = rO) w w'

/-- A walk that stays, and ends there or goes into y. -/
def CandO (D : List PDat) (n : Nat) (x : ByteArray) (room : Int) (s : Nat) (q c : Int) : Prop := ∃ c1, Cl D x room s q c1 ∧ s ≤ n ∧ c = c1
def CandG (D : List PDat) (n : Nat) (x : ByteArray) (room : Int) (s : Nat) (q : Int) (y : ByteArray) (c : Int) : Prop := ∃ c1 c2, Cl D x room s q c1 ∧ s < n ∧ Op D y (En D y q).1 (n - s - 1) c2 ∧ c = c1 + (En D y q).2 + c2

section
variable {R : List RP} {w0 : World} {N0 rS rC rO : Nat} {sp sn : SV}

theorem RSt.putO {w w' : World} {C : List (K3 × (Nat → Int))} {O : List (K3 × Int)} (S : RSt R w0 N0 rS rC rO sp sn w C O) (hK : RK w0 N0 rS rC rO) {k : Nat} {room : Int} {n : Nat} {r : RP} {v : Int} (hr : R[k]? = some r) (hv : (∀ c, Op (R.map RP.dat) r.name room n c → c ≤ v) ∧ Op (R.map RP.dat) r.name room n v)
    (hm : MapAt w' ek3 evI rO (AL.put O ((k : Int), room, (n : Int)) v)) (hw : Fr (· = rO) w w') : RSt R w0 N0 rS rC rO sp sn w' C (AL.put O ((k : Int), room, (n : Int)) v) := by
  have h1 := hK.hO
  have h2 := hK.SO
  have h3 := hK.CO
  refine ⟨Pu.andNew S.pu hw fun i hi => by omega, Nat.le_trans S.big hw.size, hw.blk S.c h2, S.nx.fr hw fun i hi hx => hi.2.2 hx, S.mc.fr hw h3, hm, S.okc, fun k' room' n' r' v' hg hr' hroom => ?_⟩
  rw [AL.get_put] at hg
  split at hg
  · rename_i heq
    simp only [Prod.mk.injEq] at heq
    obtain ⟨e1, e2, e3⟩ := heq
    have e1 : k = k' := by omega
    have e3 : n = n' := by omega
    subst e1; subst e2; subst e3
    have : r = r' := Option.some.inj (hr.symm.trans hr')
    subst this
    have : v = v' := Option.some.inj hg
    subst this
    exact hv
  · exact S.oko k' room' n' r' v' hg hr' hroom

/-- What a call of 'open' has in memory while it runs. -/
structure OI (R : List RP) (w0 : World) (N0 rS rC rO : Nat) (sp sn : SV) (w : World) (k : Nat) (room : Int) (n : Nat) (w' : World) : Prop where
  st : ∃ C' O', RSt R w0 N0 rS rC rO sp sn w' C' O'
  fr : Fr (fun i => i = rC ∨ i = rO ∨ w.heap.size ≤ i) w w'
  c9 : w'.heap[w.heap.size]? = some (.cells #[.int .i64 (k : Int), .int .i64 room, .int .i64 (n : Int)] 130)
variable {w : World} {k : Nat} {room : Int} {n : Nat}
theorem OI.pu {w1 w2 : World} (h : OI R w0 N0 rS rC rO sp sn w k room n w1) (hp : Pu w1 w2) : OI R w0 N0 rS rC rO sp sn w k room n w2 :=
  ⟨let ⟨C', O', h⟩ := h.st; ⟨C', O', h.pu' hp⟩, h.fr.trans (Fr.pu hp : Fr (fun _ => False) w1 w2) fun _ hi _ => hi.elim, hp.blk h.c9⟩
theorem OI.call {w1 w2 : World} (h : OI R w0 N0 rS rC rO sp sn w k room n w1) (hf : Fr (fun i => i = rC ∨ i = rO) w1 w2) {C' : List (K3 × (Nat → Int))} {O' : List (K3 × Int)} (hS : RSt R w0 N0 rS rC rO sp sn w2 C' O') (h1 : rC < w.heap.size) (h2 : rO < w.heap.size) : OI R w0 N0 rS rC rO sp sn w k room n w2 :=
  ⟨⟨C', O', hS⟩, h.fr.trans hf fun _ hi _ => hi.elim .inl fun h => .inr (.inl h), hf.blk h.c9 (by omega)⟩
/-- The best so far. -/
def OV (D : List PDat) (x : ByteArray) (room : Int) (n : Nat) (Seen : Int → Prop) (v : Int) : Prop := (∀ c, Seen c → c ≤ v) ∧ Op D x room n v
theorem OV.max {D : List PDat} {x : ByteArray} {n : Nat} {A B : Int → Prop} {v u : Int} (h : OV D x room n A v) (hu : Op D x room n u) (hB : ∀ c, B c → A c ∨ c ≤ u) : OV D x room n B (max v u) := by
  refine ⟨fun c hc => ?_, ?_⟩
  · rcases hB c hc with h1 | h1
    · have := h.1 c h1; omega
    · omega
  · rcases Int.le_total v u with h1 | h1
    · rw [Int.max_eq_right h1]; exact hu
    · rw [Int.max_eq_left h1]; exact h.2
theorem OV.mono {D : List PDat} {x : ByteArray} {n : Nat} {A B : Int → Prop} {v : Int} (h : OV D x room n A v) (hB : ∀ c, B c → A c) : OV D x room n B v := ⟨fun c hc => h.1 c (hB c hc), h.2⟩

set_option maxHeartbeats 2000000 in
theorem open_step (hC : RCtx w0 R sp) (hK : RK w0 N0 rS rC rO) (n : Nat) (hn : n ≤ 1000) (ih : ∀ m, m < n → OpenC R w0 N0 rS rC rO sp sn m) : OpenC R w0 N0 rS rC rO sp sn n := by
  intro k rx room w C O hx hroom S
  have hbw := S.big
  have hnC := hK.nC
  have hnO := hK.nO
  have hnS := hK.nS
  have h0w := S.pu.size
  have hSC := hK.SC
  have hSO := hK.SO
  have hCO := hK.CO
  have hdat := at_dat hC.nd hx
  have hcl : (getD (R.map RP.dat) rx.name).2 = rx.calls := by rw [hdat]
  have hNk : (nxt R)[k]? = some ((setS rx.calls).map (findS R)) := by simp [nxt, hx]
  have hml : maxLen = 9223372036854775807 := by unfold maxLen; omega
  have hnv : never = -1073741824 := rfl
  refine F89_calls _ _ _ _ w _ ?_
  refine boxA (by rfl) (by kernel_rfl) (by rfl) fun w1 hp1 z1 hb9 => ?_
  refine dwE_intro fun w2 hp2 hh2 => ?_
  have S2 := S.pu' (hp1.trans hp2)
  have hb9 := hp2.blk hb9
  refine ⟨some rO, by rw [add_def, cell_blk S2.c]; rfl, (k : Int), by rw [add_def, cell_blk hb9]; rfl, room, by rw [add_def, cell_blk hb9]; rfl, (n : Int), by rw [add_def, cell_blk hb9]; rfl, _, _, look113 S2.mo ((k : Int), room, (n : Int)), Br.of (fun h1 => ?_) (fun h1 => ?_)⟩
  · obtain ⟨v, hv⟩ := Option.isSome_iff_exists.1 h1
    refine ⟨v, by rw [hv]; rfl, S.oko k room n rx v hv hx hroom, C, O, S2, Fr.pu (hp1.trans hp2)⟩
  have X2 : OI R w0 N0 rS rC rO sp sn w k room n w2 := ⟨⟨C, O, S2⟩, Fr.pu (hp1.trans hp2), hb9⟩
  refine loopUp (n + 1) (fun s t w' => t.2 = (s : Int) ∧ OI R w0 N0 rS rC rO sp sn w k room n w' ∧ OV (R.map RP.dat) rx.name room n (fun c => ∃ (s' : Nat) (q : Int), s' < s ∧ (CandO (R.map RP.dat) n rx.name room s' q c ∨ ∃ y ∈ setS rx.calls, CandG (R.map RP.dat) n rx.name room s' q y c)) t.1)
    ⟨rfl, X2, fun c h => by obtain ⟨s', q, h1, _⟩ := h; omega, .stop .nil (Nat.zero_le _)⟩ ?_
  rintro s J1 ⟨best, z⟩ w3 hsn ⟨hz, X3, V3⟩ hJ1
  obtain rfl : z = (s : Int) := hz
  have V3 : OV (R.map RP.dat) rx.name room n (fun c => ∃ (s' : Nat) (q : Int), s' < s ∧ (CandO (R.map RP.dat) n rx.name room s' q c ∨ ∃ y ∈ setS rx.calls, CandG (R.map RP.dat) n rx.name room s' q y c)) best := V3
  dsimp only
  refine Br.of (fun hlt => ?_) (fun hge => ?_)
  · have hs : s ≤ n := by have := dtrue hlt; omega
    obtain ⟨C3, O3, S3⟩ := X3.st
    refine Calls.mono (around_c hC hK s (by omega) k rx room w3 C3 O3 hx hroom S3) ?_
    rintro e w4 ⟨f, rfl, hf, C4, S4, hf4⟩
    refine ⟨f 0, f 1, f 2, f 3, f 4, f 5, f 6, f 7, f 8, f 9, f 10, f 11, f 12, f 13, f 14, f 15, rfl, ?_⟩
    have X4 := X3.call (hf4.mono fun i hi _ => .inl hi) S4 (by omega) (by omega)
    refine boxA (by rfl) (by kernel_rfl) (by rfl) fun w5 hp5 z5 hb14 => ?_
    have X5 := X4.pu hp5
    have hX4 := X4.fr.size
    obtain ⟨r14, hr14⟩ : ∃ r14, r14 = w4.heap.size := ⟨_, rfl⟩
    rw [← hr14] at hb14 ⊢
    refine loopUp 16 (fun q t w' => t.2 = (q : Int) ∧ OI R w0 N0 rS rC rO sp sn w k room n w' ∧ w'.heap[r14]? = some (.cells (arrC f) 77) ∧ OV (R.map RP.dat) rx.name room n (fun c => (∃ (s' : Nat) (q : Int), s' < s ∧ (CandO (R.map RP.dat) n rx.name room s' q c ∨ ∃ y ∈ setS rx.calls, CandG (R.map RP.dat) n rx.name room s' q y c)) ∨ ∃ p : Int, p < q ∧ 0 ≤ p ∧ (CandO (R.map RP.dat) n rx.name room s p c ∨ ∃ y ∈ setS rx.calls, CandG (R.map RP.dat) n rx.name room s p y c)) t.1)
      ⟨rfl, X5, hb14, V3.mono fun c h => h.resolve_right fun ⟨p, h1, h2, _⟩ => by omega⟩ ?_
    rintro q J2 ⟨best, z⟩ w6 hq ⟨hz, X6, i14, V6⟩ hJ2
    obtain rfl : z = (q : Int) := hz
    dsimp only
    refine Br.of (fun hlt => ?_) (fun hge => ?_)
    · have hlt : q < 16 := by have := dtrue hlt; omega
      have hb := hf q hlt
      refine ⟨by omega, by omega, f q, arr_cell i14 hlt, Br.of (fun h2 => ?_) (fun h2 => ?_)⟩
      · have h2 : f q = never := by simpa using h2
        show J2 _ _
        rw [wrap_in (by omega) (by omega)]
        refine hJ2 _ _ hlt ⟨rfl, X6, i14, V6.mono fun c hc => ?_⟩
        rcases hc with hc | ⟨p, hp, hp0, hc⟩
        · exact .inl hc
        · by_cases h3 : p = q
          · subst h3
            rcases hc with ⟨c1, k1, _⟩ | ⟨y, _, c1, c2, k1, _⟩
            · exact absurd k1 (hb.none' h2 c1)
            · exact absurd k1 (hb.none' h2 c1)
          · exact .inr ⟨p, by omega, hp0, hc⟩
      · have h2 : f q ≠ never := by simpa using h2
        have hreal := hb.real h2
        have hbd := hreal.bounds
        have hopq : Op (R.map RP.dat) rx.name room n (f q) := .stop hreal hs
        refine ⟨by omega, by omega, f q, arr_cell i14 hlt, _, w6, max_run _ _ _ _ _ _, ?_⟩
        have V7 : OV (R.map RP.dat) rx.name room n (fun c => ((∃ (s' : Nat) (q : Int), s' < s ∧ (CandO (R.map RP.dat) n rx.name room s' q c ∨ ∃ y ∈ setS rx.calls, CandG (R.map RP.dat) n rx.name room s' q y c)) ∨ ∃ p : Int, p < q ∧ 0 ≤ p ∧ (CandO (R.map RP.dat) n rx.name room s p c ∨ ∃ y ∈ setS rx.calls, CandG (R.map RP.dat) n rx.name room s p y c)) ∨ CandO (R.map RP.dat) n rx.name room s q c) (max best (f q)) := OV.max V6 hopq fun c hc => by
          rcases hc with hc | ⟨c1, k1, _, rfl⟩
          · exact .inl hc
          · exact .inr (hb.1 _ k1)
        refine loopUp (setS rx.calls).length (fun j t w' => t.2 = (j : Int) ∧ OI R w0 N0 rS rC rO sp sn w k room n w' ∧ w'.heap[r14]? = some (.cells (arrC f) 77) ∧ OV (R.map RP.dat) rx.name room n (fun c => (((∃ (s' : Nat) (q : Int), s' < s ∧ (CandO (R.map RP.dat) n rx.name room s' q c ∨ ∃ y ∈ setS rx.calls, CandG (R.map RP.dat) n rx.name room s' q y c)) ∨ ∃ p : Int, p < q ∧ 0 ≤ p ∧ (CandO (R.map RP.dat) n rx.name room s p c ∨ ∃ y ∈ setS rx.calls, CandG (R.map RP.dat) n rx.name room s p y c)) ∨ CandO (R.map RP.dat) n rx.name room s q c) ∨ ∃ (j' : Nat) (y : ByteArray), j' < j ∧ (setS rx.calls)[j']? = some y ∧ CandG (R.map RP.dat) n rx.name room s q y c) t.1)
          ⟨rfl, X6, i14, V7.mono fun c h => h.resolve_right fun ⟨j', y, h1, _⟩ => by omega⟩ ?_
        rintro j J3 ⟨best, z⟩ w7 hj ⟨hz, X7, j14, V8⟩ hJ3
        obtain rfl : z = (j : Int) := hz
        dsimp only
        obtain ⟨C7, O7, S7⟩ := X7.st
        obtain ⟨a, t, ha, hka, htl, htm, hst⟩ := S7.nx.stay hNk
        have htl : t.len = (setS rx.calls).length := by simpa using htl
        have hsz7 := X7.fr.size
        obtain ⟨hca, hels⟩ := hst (fun _ => False) w7 (Fr.refl _ _) fun _ _ h => h
        have hca' : w7.cell? (a.add (((k : Nat) : Int).toNat * 1)) = some (.slice t.a t.len t.cap) := by rw [Int.toNat_natCast]; exact hca
        -- what is seen when all is done
        have all : (¬ (j < (setS rx.calls).length) ∨ ¬ (s < n)) → J2 (best, IntKind.i64.wrap ((q : Int) + 1)) w7 := fun hend => by
          rw [wrap_in (by omega) (by omega)]
          refine hJ2 _ _ hlt ⟨rfl, X7, j14, V8.mono fun c hc => ?_⟩
          rcases hc with hc | ⟨p, hp, hp0, hc⟩
          · exact .inl (.inl (.inl hc))
          · by_cases h3 : p = q
            · subst h3
              rcases hc with hc | ⟨y, hy, hc⟩
              · exact .inl (.inr hc)
              · obtain ⟨j', hj'l, hj'⟩ := List.getElem_of_mem hy
                rcases hend with he | he
                · exact .inr ⟨j', y, by omega, by rw [List.getElem?_eq_getElem hj'l, hj'], hc⟩
                · obtain ⟨c1, c2, _, h5, _⟩ := hc
                  exact absurd h5 he
            · exact .inl (.inl (.inr ⟨p, by omega, hp0, hc⟩))
        refine ⟨sn, by rw [add_def, cell_blk S7.c]; rfl, a, ha, by omega, by omega, t, hca', Br.of (fun hlt2 => Br.of (fun hlt3 => ?_) (fun hge3 => ?_)) (fun hge2 => ?_)⟩
        · have hjl : j < (setS rx.calls).length := by have := dtrue hlt2; omega
          have hsl : s < n := by have := dtrue hlt3; omega
          obtain ⟨y, hy⟩ := at_k hjl
          have hym : y ∈ (getD (R.map RP.dat) rx.name).2 := by rw [hcl]; exact mem_setS.1 (List.mem_of_getElem? hy)
          obtain ⟨ky, ry, hfy, hky, hny, _⟩ := findS_at (hC.call _ _ hym)
          subst hny
          obtain ⟨a', ha', hc'⟩ := hels j (findS R ry.name) (by simp [hy])
          have hc' : w7.cell? (a'.add (((j : Nat) : Int).toNat * 1)) = some (.int .i64 (ky : Int)) := by rw [Int.toNat_natCast, ← hfy]; exact hc'
          refine ⟨sn, by rw [add_def, cell_blk S7.c]; rfl, a, ha, by omega, by omega, t, hca', a', ha', by omega, by omega, (ky : Int), hc', ?_⟩
          refine Calls.mono (enter88_c hC S7 hky (q : Int)) ?_
          rintro e w7' ⟨rfl, rfl⟩
          refine ⟨_, _, rfl, ?_⟩
          refine dwE_intro fun w8 hp8 hh8 => ?_
          have S8 := S7.pu' hp8
          have X8 := X7.pu hp8
          have k14 := hp8.blk j14
          have n14 : r14 ≠ rC ∧ r14 ≠ rO := by omega
          refine ⟨fun w' => Fr (fun i => i = rC ∨ i = rO) w8 w', Fr.refl _ _, by omega, by omega, f q, fun w' h => arr_cell (h.blk k14 (by omega)) hlt, sn, fun w' h => by rw [add_def, cell_blk (h.blk S8.c (by omega))]; rfl, a, ha, by omega, by omega, t, fun w' h => ?_, a', ha', by omega, by omega, (ky : Int), fun w' h => ?_, ?_⟩
          · have hfr : Fr (fun i => i = rC ∨ i = rO) w7' w' := (Fr.pu hp8 : Fr (fun i => i = rC ∨ i = rO) w7' w8).trans h fun i hi _ => hi
            rw [Int.toNat_natCast]
            exact (hst _ w' hfr fun i hi hx => hx.elim hi.2.1 hi.2.2).1
          · have hfr : Fr (fun i => i = rC ∨ i = rO) w7' w' := (Fr.pu hp8 : Fr (fun i => i = rC ∨ i = rO) w7' w8).trans h fun i hi _ => hi
            obtain ⟨a2, ha2, hc2⟩ := (hst _ w' hfr fun i hi hx => hx.elim hi.2.1 hi.2.2).2 j (findS R ry.name) (by simp [hy])
            rw [ha'] at ha2; cases ha2
            rw [Int.toNat_natCast, ← hfy]; exact hc2
          rw [wrap_in (n := (n : Int) - (s : Int)) (by omega) (by omega), wrap_in (by omega) (by omega), show (n : Int) - (s : Int) - 1 = ((n - s - 1 : Nat) : Int) by omega]
          refine Calls.mono (ih (n - s - 1) (by omega) ky ry (En (R.map RP.dat) ry.name q).1 w8 C7 O7 hky (En_room hC.ov _ (by omega)) S8) ?_
          rintro e w9 ⟨v, rfl, ⟨hv1, hv2⟩, C9, O9, S9, hf9⟩
          have hen := enter_one (getD (R.map RP.dat) ry.name).1 q
          have hvb := hv2.bounds
          refine ⟨_, rfl, hf9, _, w9, max_run _ _ _ _ _ _, ?_⟩
          simp only [En]
          rw [wrap_in (n := f q + (enterR (getD (R.map RP.dat) ry.name).1 ((q : Int), 0)).2) (by omega) (by omega), wrap_in (n := f q + (enterR (getD (R.map RP.dat) ry.name).1 ((q : Int), 0)).2 + v) (by omega) (by omega), wrap_in (by omega) (by omega)]
          refine hJ3 _ _ hjl ⟨rfl, X8.call hf9 S9 (by omega) (by omega), hf9.blk k14 (by omega), OV.max V8 (.go hreal hsl hym hv2) fun c hc => ?_⟩
          rcases hc with hc | ⟨j', y', hj', hy', hc⟩
          · exact .inl (.inl hc)
          · by_cases h3 : j' = j
            · subst h3
              have : ry.name = y' := Option.some.inj (hy.symm.trans hy')
              subst this
              obtain ⟨c1, c2, k1, _, k2, rfl⟩ := hc
              have u1 := hb.1 _ k1
              have u2 := hv1 _ k2
              simp only [En]
              exact .inr (by omega)
            · exact .inl (.inr ⟨j', y', by omega, hy', hc⟩)
        · exact all (.inr (by have := dfalse hge3; omega))
        · exact all (.inl (by have := dfalse hge2; omega))
    · have hge := dfalse hge
      show J1 _ _
      rw [wrap_in (by omega) (by omega)]
      refine hJ1 _ _ (by omega) ⟨rfl, X6, V6.mono fun c hc => ?_⟩
      obtain ⟨s', p, hs', hc⟩ := hc
      by_cases h3 : s' = s
      · subst h3
        have hp : 0 ≤ p ∧ p ≤ 15 := by
          rcases hc with ⟨c1, k1, _⟩ | ⟨y, _, c1, c2, k1, _⟩
          · exact k1.room hC.ov hroom
          · exact k1.room hC.ov hroom
        exact .inr ⟨p, by omega, hp.1, hc⟩
      · exact .inl ⟨s', p, by omega, hc⟩
  · have hge := dfalse hge
    have hfin : (∀ c, Op (R.map RP.dat) rx.name room n c → c ≤ best) ∧ Op (R.map RP.dat) rx.name room n best := by
      refine ⟨fun c hc => V3.1 c ?_, V3.2⟩
      cases hc with
      | @stop _ _ q _ s' _ h1 h2 => exact ⟨s', q, by omega, .inl ⟨c, h1, h2, rfl⟩⟩
      | @go _ y _ q c1 c2 s' _ h1 h2 h3 h4 =>
        rw [hcl] at h3
        exact ⟨s', q, by omega, .inr ⟨y, mem_setS.2 h3, c1, c2, h1, h2, h4, rfl⟩⟩
    refine dwE_intro fun w4 hp4 hh4 => ?_
    have X4 := X3.pu hp4
    obtain ⟨C4, O4, S4⟩ := X4.st
    have hb9' := X4.c9
    refine ⟨some rO, by rw [add_def, cell_blk S4.c]; rfl, (k : Int), by rw [add_def, cell_blk hb9']; rfl, room, by rw [add_def, cell_blk hb9']; rfl, (n : Int), by rw [add_def, cell_blk hb9']; rfl, ?_⟩
    obtain ⟨w5, hrun, hm5, hf5, z5⟩ := put113 S4.mo ((k : Int), room, (n : Int)) best
    refine ⟨w5, hrun, best, rfl, hfin, C4, _, S4.putO hK hx hfin hm5 hf5, ?_⟩
    exact (X4.fr.trans hf5 fun i hi _ => .inr (.inl hi)).mono fun i hi hlt => by omega

theorem open_c' (hC : RCtx w0 R sp) (hK : RK w0 N0 rS rC rO) : ∀ n, n ≤ 1000 → OpenC R w0 N0 rS rC rO sp sn n := by
  intro n
  induction n using Nat.strongRecOn with
  | _ n ih => exact fun hn => open_step hC hK n hn fun m hm => ih m hm (by omega)
end
end Go.Proofs.Ytcnenlmhbpijlaa

/- Link: the reference's Worst; the law LinkWorst, walked. No condition but the reach's. -/
set_option maxRecDepth 100000
set_option linter.unusedVariables false
set_option linter.unusedSimpArgs false
namespace Go.Proofs.Ytcnenlmhbpijlaa
open Go.Sh Go.RowKit

theorem u114 : Try.prog.underlying 114 = some (.slice 30) := by kernel_rfl
theorem info30' : (Try.prog.info? 30).map (fun i => (i.zero, i.size, i.bytes)) = some (some (.slice none 0 0), 1, 24) := by kernel_rfl
theorem row_ne' {w : World} {e e' : TypeId} {s s' : SV} {vs vs' : List Value} (he : e ≠ e') (h : RowAt w e 1 s vs) (h' : RowAt w e' 1 s' vs') : ∀ i ∈ blkOf s, i ∉ blkOf s' := fun i hi hi' => by
  obtain ⟨_, rfl | ⟨g, cur, h3, h4, _⟩⟩ := h
  · simp [blkOf] at hi
  obtain ⟨_, rfl | ⟨g', cur', h3', h4', _⟩⟩ := h'
  · simp [blkOf] at hi'
  simp [blkOf, h3] at hi
  simp [blkOf, h3'] at hi'
  subst hi
  subst hi'
  rw [h4] at h4'
  simp only [Option.some.injEq, Obj.cells.injEq] at h4'
  exact he h4'.2.1
theorem RL_names' {l : List Mod} (hF : Fits l) : ((RL l).map (·.name)).Nodup := by
  have h1 : ((RL l).map RP.dat).map Prod.fst = (RL l).map (·.name) := by rw [List.map_map]; rfl
  rw [← h1, RL_dat hF.sizes, PL_keys hF.callsL]
  exact hF.nodup
theorem nxt_take {R : List RP} {k : Nat} {r : RP} (h : R[k]? = some r) (f : List RP) : ((f.take 0).map fun r => (setS r.calls).map (findS R)) = [] := rfl

set_option maxHeartbeats 2000000 in
theorem rWorst_c (w : World) (s : SV) (l : List Mod) (hl : RdSl w s l) (name : ByteArray) (n : Int) :
    Calls Try.prog 43 #[.slice s.a s.len s.cap, .string name, .int .i64 n] w fun e w' => e = .returned (.tuple #[.int .i64 (worstS l name n).1, .int .i64 (worstS l name n).2]) ∧ Pu w w' := by
  refine F43_calls s name n w _ ?_
  refine Calls.mono (rFrom_c w s l hl name) ?_
  rintro e w1 ⟨sp, n0, rfl, hp1, hO⟩
  refine ⟨sp, n0, _, rfl, Br.of (fun h1 => ?_) (fun h1 => ?_)⟩
  · have h1 : fromE l name ≠ 0 := by simpa using h1
    exact ⟨by rw [worstS, if_neg h1], hp1⟩
  have h1 : fromE l name = 0 := by simpa using h1
  refine Br.of (fun h2 => ?_) (fun h2 => Br.of (fun h3 => ?_) (fun h3 => ?_))
  · have h2 := dtrue h2
    exact ⟨by rw [worstS, if_pos h1, if_neg (by omega)], hp1⟩
  · have h3 := dtrue h3
    exact ⟨by rw [worstS, if_pos h1, if_neg (by omega)], hp1⟩
  have h2 := dfalse h2
  have h3 := dfalse h3
  obtain ⟨hR, rfl⟩ := hO h1
  obtain ⟨ho, hin0⟩ := from_open h1
  have hv := open_valid ho
  have hF := fits_of hv
  have hdat := RL_dat hF.sizes
  have hRl : (RL l).length ≤ 100 := by rw [RL_len hF]; exact hF.procs
  have hRlen := hR.len
  have hC : RCtx w1 (RL l) sp := ⟨hR, RL_names' hF, fun x => by rw [hdat]; exact getD_ov hv x, fun x y hy => by rw [hdat] at hy ⊢; exact open_in ho hy, fun x => by rw [hdat]; exact getD_len hF x, hRl⟩
  have hS : worstS l name n = ((enterR (getD (PL l) name).1 (0, 0)).2 + WS (PL l) n.toNat [] name (enterR (getD (PL l) name).1 (0, 0)).1, 0) := by rw [worstS, if_pos h1, if_pos (by omega)]
  refine alE_intro fun w2 hw2 => ?_
  have hp2 : Pu w1 w2 := by rw [hw2]; exact Pu.alloc w1 _
  have z2 : w2.heap.size = w1.heap.size + 1 := by rw [hw2]; simp
  have hC2 : MapAt w2 ek3 evA w1.heap.size [] := by rw [hw2]; exact MapAt.new w1 _ _
  refine alE_intro fun w3 hw3 => ?_
  have hp3 : Pu w2 w3 := by rw [hw3]; exact Pu.alloc w2 _
  have z3 : w3.heap.size = w2.heap.size + 1 := by rw [hw3]; simp
  have hO3 : MapAt w3 ek3 evI w2.heap.size [] := by rw [hw3]; exact MapAt.new w2 _ _
  refine alE_intro fun w4 hw4 => ?_
  have hp4 : Pu w3 w4 := by rw [hw4]; exact Pu.alloc w3 _
  have z4 : w4.heap.size = w3.heap.size + 1 := by rw [hw4]; simp
  have hb4 : w4.heap[w3.heap.size]? = some (.cells #[.slice sp.a sp.len sp.cap, .slice none 0 0, .map (some w1.heap.size), .map (some w2.heap.size)] 116) := by rw [hw4]; exact alloc_new w3 _
  have hC4 := (hC2.pu hp3).pu hp4
  have hO4 := hO3.pu hp4
  have hP4 : Pu w1 w4 := (hp2.trans hp3).trans hp4
  refine loopUp (RL l).length (fun i t w' => t = (i : Int) ∧ Pu w1 w' ∧ w4.heap.size ≤ w'.heap.size ∧ MapAt w' ek3 evA w1.heap.size [] ∧ MapAt w' ek3 evI w2.heap.size [] ∧ ∃ (sn : SV) (ts : List SV), w'.heap[w3.heap.size]? = some (.cells #[.slice sp.a sp.len sp.cap, .slice sn.a sn.len sn.cap, .map (some w1.heap.size), .map (some w2.heap.size)] 116) ∧
      RowAt w' 30 1 sn (ts.map fun t : SV => Value.slice t.a t.len t.cap) ∧ ts.length = i ∧ (∀ j ∈ blkOf sn, w4.heap.size ≤ j) ∧ ∀ (k : Nat) (t : SV) (r : RP), ts[k]? = some t → (RL l)[k]? = some r → RowAt w' 3 1 t (((setS r.calls).map (findS (RL l))).map fun n : Int => Value.int .i64 n) ∧ ∀ j ∈ blkOf t, w4.heap.size ≤ j)
    ⟨rfl, hP4, Nat.le_refl _, hC4, hO4, ⟨none, 0, 0⟩, [], hb4, RowAt.nil _ _ _, rfl, by simp [blkOf], fun k t r h => by simp at h⟩ ?_
  rintro i J1 t w5 hi ⟨rfl, hp5, z5, hC5, hO5, sn, ts, hb5, hrow5, htl, hsnb, hts⟩ hJ1
  have hsnl : sn.len = i := by have := hrow5.1; simp at this; omega
  refine Br.of (fun hlt => ?_) (fun hge => ?_)
  · have hlt : i < (RL l).length := by have := dtrue hlt; omega
    obtain ⟨r, hr⟩ := at_k hlt
    obtain ⟨a, tc, ha, hik, htc, c0, c1, c2, c3⟩ := rpAt (hR.pu hp5) hr
    refine ⟨a, ha, by omega, by omega, tc, by rw [Int.toNat_natCast]; exact c3, ?_⟩
    have hrd := at_dat hC.nd hr
    have hrl : r.calls.length ≤ 100 := by have := hC.len r.name; rw [hrd] at this; exact this
    refine Calls.mono (set_c w5 tc r.calls htc (by omega)) ?_
    rintro e w6 ⟨t14, rfl, ht14, hrow14, hb14, hp6⟩
    refine ⟨t14, rfl, ?_⟩
    have z6 := hp6.size
    have hset : (setS r.calls).length ≤ 100 := by
      have h1 := cptFrom_len (srt r.calls) none
      rw [srt_length] at h1
      show (cptFrom none _).length ≤ 100
      omega
    refine loopUp (setS r.calls).length (fun j t w' => t.2 = (j : Int) ∧ Pu w6 w' ∧ RowAt w' 3 1 t.1 ((((setS r.calls).take j).map (findS (RL l))).map fun n : Int => Value.int .i64 n) ∧ ∀ b ∈ blkOf t.1, w6.heap.size ≤ b) ⟨rfl, Pu.refl _, RowAt.nil _ _ _, by simp [blkOf]⟩ ?_
    rintro j J2 ⟨l13, z⟩ w7 hj ⟨hz, hp7, hrow13, hb13⟩ hJ2
    obtain rfl : z = (j : Int) := hz
    have hrow13 : RowAt w7 3 1 l13 ((((setS r.calls).take j).map (findS (RL l))).map fun n : Int => Value.int .i64 n) := hrow13
    have hb13 : ∀ b ∈ blkOf l13, w6.heap.size ≤ b := hb13
    dsimp only
    have hl13 : l13.len = j := by have := hrow13.1; simp at this; omega
    refine Br.of (fun hlt2 => ?_) (fun hge2 => ?_)
    · have hlt2 : j < (setS r.calls).length := by have := dtrue hlt2; omega
      obtain ⟨y, hy⟩ := at_k hlt2
      obtain ⟨a', ha', hc', _⟩ := (hrow14.pu hp7).cell (j := j) (v := .string y) (by simp [hy])
      refine ⟨a', ha', by omega, by omega, y, by simpa using hc', ?_⟩
      refine Calls.mono (find_c w7 sp (RL l) (hR.pu (hp5.trans (hp6.trans hp7))) y) ?_
      rintro e w8 ⟨rfl, rfl⟩
      refine ⟨_, rfl, ?_⟩
      refine alE_intro fun w9 hw9 => ?_
      have hp9 : Pu w8 w9 := by rw [hw9]; exact Pu.alloc w8 _
      have hn9 : w9.heap[w8.heap.size]? = some (.cells #[.int .i64 (findS (RL l) y)] 3) := by rw [hw9]; exact alloc_new w8 _
      obtain ⟨l65, w10, hra, hrow10, hf10, hblk10, hl10⟩ := row_push (P := Try.prog) (ty := 30) (t := 30) u30 info3 rfl (s := l13) (hrow13.pu hp9) (a := ⟨w8.heap.size, 0, none⟩) (u := .int .i64 (findS (RL l) y)) (by rw [cell_blk hn9]; rfl) rfl (by omega)
      refine ⟨l65, w10, hra, ?_⟩
      rw [wrap_in (by omega) (by omega)]
      have z7 := hp7.size
      have z9 := hp9.size
      refine hJ2 _ _ hlt2 ⟨rfl, Pu.andNew (hp7.trans hp9) hf10 hb13, ?_, fun b hb => ?_⟩
      · show RowAt w10 3 1 l65 _
        rw [take_at hy, List.map_append, List.map_append]
        exact hrow10
      · rcases hblk10 b hb with h | h
        · exact hb13 b h
        · omega
    · have hge2 : ¬ j < (setS r.calls).length := by have := dfalse hge2; omega
      rw [take_end hj hge2] at hrow13
      have hP7 := hp6.trans hp7
      have hb7 := hP7.blk hb5
      have z7 := hp7.size
      refine ⟨sn, by rw [add_def, cell_blk hb7]; rfl, ?_⟩
      refine alE_intro fun w8 hw8 => ?_
      have hp8 : Pu w7 w8 := by rw [hw8]; exact Pu.alloc w7 _
      have z8 : w8.heap.size = w7.heap.size + 1 := by rw [hw8]; simp
      have hn8 : w8.heap[w7.heap.size]? = some (.cells #[.slice l13.a l13.len l13.cap] 30) := by rw [hw8]; exact alloc_new w7 _
      have hP8 := hP7.trans hp8
      have hrow8 := hrow5.pu hP8
      obtain ⟨l73, w9, hra, hrow9, hf9, hblk9, hl9⟩ := row_push (P := Try.prog) (ty := 114) (t := 114) u114 info30' rfl (s := sn) hrow8 (a := ⟨w7.heap.size, 0, none⟩) (u := .slice l13.a l13.len l13.cap) (by rw [cell_blk hn8]; rfl) rfl (by omega)
      refine ⟨l73, w9, hra, ?_⟩
      have hb9 := hf9.blk (hp8.blk hb7) (fun h => by have := hsnb _ h; omega)
      rw [ptrE_some, add_def]
      refine st1_intro hb9 (by show 0 + 1 < 4; omega) fun w10 hw10 hb10 => ?_
      have hf10 : Fr (· = w3.heap.size) w9 w10 := by rw [hw10]; exact Fr.cell w9 _ _ _
      have z9 := hf9.size
      have z10 := hf10.size
      show J1 _ _
      rw [wrap_in (by omega) (by omega)]
      have hf : Fr (fun b => b = w3.heap.size ∨ b ∈ blkOf sn) w8 w10 := (hf9.mono fun b hb _ => .inr hb).trans hf10 fun b hb _ => .inl hb
      have hrow13' : RowAt w10 3 1 l13 (((setS r.calls).map (findS (RL l))).map fun n : Int => Value.int .i64 n) := (hrow13.pu hp8).fr hf fun b hb hx => by
        rcases hx with hx | hx
        · have := hb13 b hb; omega
        · exact row_ne' (by decide) (hrow13.pu hp8) hrow8 b hb hx
      refine hJ1 _ _ hlt ⟨rfl, Pu.andNew (hp5.trans hP8) hf fun b hb => ?_, by omega, (hC5.pu hP8).fr hf fun hx => ?_, (hO5.pu hP8).fr hf fun hx => ?_, l73, ts ++ [l13], hb10, ?_, by simp [htl], fun b hb => ?_, fun k t q hk hq => ?_⟩
      · rcases hb with hb | hb
        · omega
        · have := hsnb b hb; omega
      · rcases hx with hx | hx
        · omega
        · have := hsnb _ hx; omega
      · rcases hx with hx | hx
        · omega
        · have := hsnb _ hx; omega
      · rw [List.map_append]
        refine hrow9.fr hf10 fun b hb hx => ?_
        rcases hblk9 b hb with h | h
        · have := hsnb b h; omega
        · omega
      · rcases hblk9 b hb with h | h
        · exact hsnb b h
        · omega
      · by_cases hki : k < ts.length
        · rw [List.getElem?_append_left hki] at hk
          obtain ⟨q1, q2⟩ := hts k t q hk hq
          refine ⟨(q1.pu hP8).fr hf fun b hb hx => ?_, q2⟩
          rcases hx with hx | hx
          · have := q2 b hb; omega
          · exact row_ne' (by decide) (q1.pu hP8) hrow8 b hb hx
        · rw [List.getElem?_append_right (by omega)] at hk
          have hk0 : k = i := by
            have := (List.getElem?_eq_some_iff.1 hk).1
            simp at this
            omega
          subst hk0
          rw [htl, Nat.sub_self] at hk
          have : l13 = t := by simpa using hk
          subst this
          have : r = q := Option.some.inj (hr.symm.trans hq)
          subst this
          exact ⟨hrow13', fun b hb => by have := hb13 b hb; omega⟩
  · have hge : ¬ i < (RL l).length := by have := dfalse hge; omega
    have hin : isIn ((RL l).map RP.dat) name = true := by rw [hdat]; exact hin0
    obtain ⟨k9, r9, e1, e2, e3, e4⟩ := findS_at hin
    rw [e1]
    subst e3
    have hlt5 := hrow5.lt
    have S5 : RSt (RL l) w1 w5.heap.size w3.heap.size w1.heap.size w2.heap.size sp sn w5 [] [] := by
      refine ⟨hp5, Nat.le_refl _, hb5, ⟨ts, hrow5, by simp; omega, fun b hb => by have := hlt5 b hb; have := hsnb b hb; omega, fun k t q hk hq => ?_⟩, hC5, hO5, fun k room n r f hg => by simp [AL.get] at hg, fun k room n r f hg => by simp [AL.get] at hg⟩
      rw [List.getElem?_map] at hq
      obtain ⟨rr, hrr, rfl⟩ := Option.map_eq_some_iff.1 hq
      obtain ⟨q1, q2⟩ := hts k t rr hk hrr
      exact ⟨q1, fun b hb => by have := q1.lt b hb; have := q2 b hb; omega⟩
    have hK : RK w1 w5.heap.size w3.heap.size w1.heap.size w2.heap.size := ⟨by omega, by omega, by omega, by omega, by omega, by omega, by omega, by omega⟩
    refine Calls.mono (enter88_c hC S5 e2 0) ?_
    rintro e w5' ⟨rfl, rfl⟩
    refine ⟨_, _, rfl, ?_⟩
    obtain ⟨m, rfl⟩ := int_nat (z := n) (by omega)
    refine Calls.mono (open_c' hC hK m (by omega) k9 r9 (En ((RL l).map RP.dat) r9.name 0).1 w5' [] [] e2 (En_room hC.ov _ (by omega)) S5) ?_
    rintro e w6 ⟨v, rfl, ⟨hv1, hv2⟩, C6, O6, S6, hf6⟩
    have hw := WS_eq hv1 hv2
    rw [hdat] at hw
    have hvb := hv2.bounds
    have hen := enter_one (getD ((RL l).map RP.dat) r9.name).1 0
    refine ⟨_, rfl, ?_⟩
    simp only [En] at hw ⊢
    rw [wrap_in (by omega) (by omega), hS, Int.toNat_natCast, hw, hdat]
    exact ⟨rfl, hp1.trans S6.pu⟩

set_option maxHeartbeats 1000000 in
theorem worst_k (w : World) (s : SV) (l : List Mod) (hl : RdSl w s l) (hL : Lim.ok l) (name : ByteArray) (hn : Lim.ok name) (n : Int) (_ : Lim.ok n) :
    Calls Try.prog 13 #[.slice s.a s.len s.cap, .string name, .int .i64 n] w fun e w' => e = .returned (.bool true) ∧ Pu w w' := by
  refine F13_calls s name n w _ ?_
  have kn : ∀ w1, Pu w w1 → Calls Try.prog 16 #[] w1 fun e w2 => ∃ b99 : Bool, e = .returned (.bool b99) ∧ runD Try.prog [] w2 fun w3 => (Ending.returned (.bool b99) = .returned (.bool true) ∧ Pu w w3) := fun w1 hp => by
    refine Calls.mono (known_c w1) ?_
    rintro e w2 ⟨rfl, hp2⟩
    exact ⟨true, rfl, rfl, hp.trans hp2⟩
  have main : ∀ w1, Pu w w1 → Calls Try.prog 42 #[.slice s.a s.len s.cap, .string name, .int .i64 n] w1 fun e w1 => ∃ n32_0 : Int, ∃ n32_1 : Int, e = .returned (.tuple #[.int .i64 n32_0, .int .i64 n32_1]) ∧
      Calls Try.prog 43 #[.slice s.a s.len s.cap, .string name, .int .i64 n] w1 fun e w2 => ∃ n39_0 : Int, ∃ n39_1 : Int, e = .returned (.tuple #[.int .i64 n39_0, .int .i64 n39_1]) ∧
      Br (n32_0 == n39_0) (Br (n32_1 == n39_1) (Calls Try.prog 16 #[] w2 fun e w3 => ∃ b51 : Bool, e = .returned (.bool b51) ∧ runD Try.prog [] w3 fun w4 => (Ending.returned (.bool b51) = .returned (.bool true) ∧ Pu w w4)) (
        runD Try.prog [] w2 fun w5 => (Ending.returned (.bool false) = .returned (.bool true) ∧ Pu w w5))) (runD Try.prog [] w2 fun w6 => (Ending.returned (.bool false) = .returned (.bool true) ∧ Pu w w6)) := fun w1 hp => by
    refine Calls.mono (worst42_c w1 s l (hl.pu hp) hL name n) ?_
    rintro e w2 ⟨rfl, hp2⟩
    refine ⟨_, _, rfl, ?_⟩
    refine Calls.mono (rWorst_c w2 s l (hl.pu (hp.trans hp2)) name n) ?_
    rintro e w3 ⟨rfl, hp3⟩
    exact ⟨_, _, rfl, Br.t (by simp) (Br.t (by simp) (kn w3 ((hp.trans hp2).trans hp3)))⟩
  refine Calls.mono (over_c w s l hl) ?_
  rintro e w1 ⟨b, rfl, hp1, hov⟩
  refine ⟨b, rfl, Br.of (fun _ => kn w1 hp1) (fun h1 => ?_)⟩
  refine Br.of (fun _ => kn w1 hp1) (fun _ => ?_)
  refine Calls.mono (wide_c w1 s l (hl.pu hp1)) ?_
  rintro e w2 ⟨b2, rfl, hp2⟩
  have hp2 := hp1.trans hp2
  refine ⟨b2, rfl, Br.of (fun _ => ?_) (fun _ => main w2 hp2)⟩
  refine Calls.mono (validate_c w2 s l (hl.pu hp2) hL) ?_
  rintro e w3 ⟨rfl, hp3⟩
  exact ⟨_, rfl, Br.of (fun _ => kn w3 (hp2.trans hp3)) (fun _ => main w3 (hp2.trans hp3))⟩
end Go.Proofs.Ytcnenlmhbpijlaa
