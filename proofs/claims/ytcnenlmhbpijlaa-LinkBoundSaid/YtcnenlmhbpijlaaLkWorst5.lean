import Derived.Test.YtcnenlmhbpijlaaLkWorst4
import Derived.Test.YtcnenlmhbpijlaaLkT
import Derived.Test.YtcnenlmhbpijlaaShThirteen
/- Link: the program's search for the worst walk. No condition but the reach's. -/
set_option maxRecDepth 100000
set_option linter.unusedVariables false
set_option linter.unusedSimpArgs false
namespace Go.Proofs.Ytcnenlmhbpijlaa
open Go.Sh Go.RowKit

theorem okFrom_nosp : ∀ {i : Nat} {l : List UInt8}, okFrom i l = true → (32 : UInt8) ∉ l
  | _, [], _ => by simp
  | i, b :: r, h => by
    simp only [okFrom, Bool.and_eq_true] at h
    intro hm
    rcases List.mem_cons.1 hm with rfl | hm
    · have h1 := h.1
      simp [nameAt, letter] at h1
    · exact okFrom_nosp h.2 hm
theorem name_nosp {s : ByteArray} (h : nameB s = true) : NoSp s ∧ s.size ≤ 10 := by
  simp only [nameB, Bool.and_eq_true, decide_eq_true_eq] at h
  exact ⟨okFrom_nosp h.1.1, h.2⟩
theorem stkS_size : ∀ {r : List ByteArray}, (∀ x ∈ r, nameB x = true) → (stkS r).size ≤ 11 * r.length
  | [], _ => Nat.le_refl 0
  | t :: r, h => by
    have h1 := (name_nosp (h t List.mem_cons_self)).2
    have h2 := stkS_size fun x hx => h x (List.mem_cons_of_mem _ hx)
    have h3 := congrArg List.length (stkS_data t r)
    rw [szL, List.length_append, List.length_cons, szL, szL] at h3
    simp only [List.length_cons]
    omega

abbrev worstFn (rK rP rW : Nat) : Value := .func (.func 83) #[] #[.pointer (some (⟨rK, 0, none⟩ : Addr)), .pointer (some (⟨rP, 0, none⟩ : Addr)), .pointer (some (⟨rW, 0, none⟩ : Addr))]

/-- What the memo tells is right. -/
def MemoOK (D : List PDat) (M : List (WK × Int)) : Prop := ∀ k n, AL.get M k = some n → ∀ rest, (∀ x ∈ rest, NoSp x) → k.stk = stkS rest → 0 ≤ k.left ∧ n = WS D k.left.toNat rest k.top k.room

/-- The search's cells. -/
structure WSt (D : List PDat) (w0 : World) (b rK rP rW rM : Nat) (w : World) (M : List (WK × Int)) : Prop where
  pu : Pu w0 w
  k : w.heap[rK]? = some (.cells #[.map (some rM)] 103)
  p : w.heap[rP]? = some (.cells #[.map (some b)] 57)
  f : w.heap[rW]? = some (.cells #[worstFn rK rP rW] 104)
  m : MapAt w ekW evI rM M
  ok : MemoOK D M
theorem WSt.fr {D : List PDat} {w0 : World} {b rK rP rW rM : Nat} {w w' : World} {M : List (WK × Int)} {B : Nat → Prop} (h : WSt D w0 b rK rP rW rM w M) (hf : Fr B w w') (h0 : ∀ i, B i → w0.heap.size ≤ i) (h1 : ¬ B rK) (h2 : ¬ B rP) (h3 : ¬ B rW) (h4 : ¬ B rM) : WSt D w0 b rK rP rW rM w' M :=
  ⟨Pu.andNew h.pu hf h0, hf.blk h.k h1, hf.blk h.p h2, hf.blk h.f h3, h.m.fr hf h4, h.ok⟩
theorem WSt.pu' {D : List PDat} {w0 : World} {b rK rP rW rM : Nat} {w w' : World} {M : List (WK × Int)} (h : WSt D w0 b rK rP rW rM w M) (hp : Pu w w') : WSt D w0 b rK rP rW rM w' M :=
  ⟨h.pu.trans hp, hp.blk h.k, hp.blk h.p, hp.blk h.f, h.m.pu hp, h.ok⟩

/-- What is asked of the modules. -/
structure WCtx (w0 : World) (b : Nat) (L : List PRow) (D : List PDat) : Prop where
  m : MapAt w0 ekS evP b L
  r : RdP w0 L D
  name : ∀ x y, y ∈ (getD D x).2 → nameB y = true
  len : ∀ x, (getD D x).2.length ≤ 100

section
variable {D : List PDat} {w0 : World} {b rK rP rW rM : Nat} {L : List PRow}

/-- The contract of the search. -/
def WorstC (D : List PDat) (w0 : World) (b rK rP rW rM : Nat) (n : Nat) : Prop := ∀ (rest : List ByteArray) (top : ByteArray) (room : Int) (w : World) (M : List (WK × Int)), rest.length + n ≤ 1000 → (∀ x ∈ rest, nameB x = true) → nameB top = true → WSt D w0 b rK rP rW rM w M →
  Calls Try.prog 83 #[.agg #[.string (stkS rest), .string top, .int .i64 room, .int .i64 (n : Int)], .pointer (some (⟨rK, 0, none⟩ : Addr)), .pointer (some (⟨rP, 0, none⟩ : Addr)), .pointer (some (⟨rW, 0, none⟩ : Addr))] w fun e w' =>
    e = .returned (.int .i64 (WS D n rest top room)) ∧ ∃ M', WSt D w0 b rK rP rW rM w' M' ∧ Fr (· = rM) w w'

set_option maxHeartbeats 1000000 in
theorem try_c (hC : WCtx w0 b L D) (hK : rK ≠ rM) (hP : rP ≠ rM) (hW : rW ≠ rM) (hM0 : w0.heap.size ≤ rM) {n : Nat} (ih : WorstC D w0 b rK rP rW rM n) (rest : List ByteArray) (y : ByteArray) (hn : rest.length + n ≤ 1000) (hr : ∀ x ∈ rest, nameB x = true) (hy : nameB y = true)
    (w : World) (M : List (WK × Int)) (S : WSt D w0 b rK rP rW rM w M) (r4 r8 : Nat) (s0 t0 : ByteArray) (room best : Int) (h0 : 0 ≤ best) (h1 : best ≤ n + 1)
    (h4 : w.heap[r4]? = some (.cells #[.string s0, .string t0, .int .i64 room, .int .i64 ((n : Int) + 1)] 106)) (h8 : w.heap[r8]? = some (.cells #[.int .i64 best] 3)) (h48 : r4 ≠ r8) (d4 : r4 ≠ rM) (d8 : r8 ≠ rM) (e8 : w0.heap.size ≤ r8) (k8 : rK ≠ r8) (p8 : rP ≠ r8) (f8 : rW ≠ r8) :
    Calls Try.prog 84 #[.agg #[.string (stkS rest), .string y, .int .i64 0, .int .i64 0], .pointer (some (⟨r4, 0, none⟩ : Addr)), .pointer (some (⟨rP, 0, none⟩ : Addr)), .pointer (some (⟨r8, 0, none⟩ : Addr)), .pointer (some (⟨rW, 0, none⟩ : Addr))] w fun e w' =>
      e = .returned (.tuple #[]) ∧ ∃ M', WSt D w0 b rK rP rW rM w' M' ∧ Fr (fun i => i = rM ∨ i = r8) w w' ∧
        w'.heap[r8]? = some (.cells #[.int .i64 (max best ((enterR (getD D y).1 (room, 0)).2 + WS D n rest y (enterR (getD D y).1 (room, 0)).1))] 3) := by
  refine F84_calls _ _ _ _ _ _ _ _ w _ ?_
  refine alE_intro fun w1 hw1 => ?_
  have hp1 : Pu w w1 := by rw [hw1]; exact Pu.alloc w _
  have z1 : w1.heap.size = w.heap.size + 1 := by rw [hw1]; simp
  have hb5 : w1.heap[w.heap.size]? = some (.cells #[.string (stkS rest), .string y, .int .i64 0, .int .i64 0] 106) := by rw [hw1]; exact alloc_new w _
  have S1 := S.pu' hp1
  have l4 := blk_lt h4
  have l8 := blk_lt h8
  have lK := blk_lt S.k
  have lP := blk_lt S.p
  have lW := blk_lt S.f
  have lM := S.m.lt
  have g4 := hp1.blk h4
  have g8 := hp1.blk h8
  refine ⟨room, by rw [add_def, cell_blk g4]; rfl, some b, by rw [cell_blk S1.p]; rfl, y, by rw [add_def, cell_blk hb5]; rfl, _, _, w1, (look57 (hC.m.pu S1.pu) y).2, ?_⟩
  rw [(hC.r.get y).2.1]
  refine Calls.mono (enter_c w1 (room, 0) (getD D y).1 (by simp) (by simp)) ?_
  rintro e w5 ⟨rfl, hp5⟩
  refine ⟨_, _, rfl, ?_⟩
  have hbnd := enter_one (getD D y).1 room
  have hws := WS_bounds D n rest y (enterR (getD D y).1 (room, 0)).1
  generalize enterR (getD D y).1 (room, 0) = q at *
  refine boxA (by rfl) (by kernel_rfl) (by rfl) fun w7 hp7 hs7 hb7 => ?_
  refine dwE_intro fun w8 hp8 hh8 => ?_
  have z5 := hp5.size
  have z8 : w8.heap.size = w7.heap.size := by rw [hh8]
  have hp18 : Pu w1 w8 := (hp5.trans hp7).trans hp8
  have k6 := hp8.blk hb7
  have k4 := hp18.blk g4
  have k8' := hp18.blk g8
  have k5 := hp18.blk hb5
  refine ⟨fun w' => w'.heap[w5.heap.size]? = some (.cells #[.int .i64 q.1, .int .i64 q.2] 61) ∧ w'.heap[r4]? = some (.cells #[.string s0, .string t0, .int .i64 room, .int .i64 ((n : Int) + 1)] 106), ⟨k6, k4⟩, q.1, fun w' h => by rw [cell_blk h.1]; rfl, (n : Int) + 1, fun w' h => by rw [add_def, cell_blk h.2]; rfl, ?_⟩
  rw [add_def]
  refine st1_intro k5 (by show 0 + 2 < 4; omega) fun w10 hw10 hb10 => ?_
  have hf10 : Fr (· = w.heap.size) w8 w10 := by rw [hw10]; exact Fr.cell w8 _ _ _
  refine ⟨⟨hf10.blk k6 (by omega), hf10.blk k4 (by omega)⟩, ?_⟩
  rw [add_def, wrap_in (by omega) (by omega)]
  refine st1_intro hb10 (by show 0 + 3 < 4; omega) fun w11 hw11 hb11 => ?_
  have hf11 : Fr (· = w.heap.size) w10 w11 := by rw [hw11]; exact Fr.cell w10 _ _ _
  refine dwE_intro fun w12 hp12 hh12 => ?_
  have hf12 : Fr (· = w.heap.size) w1 w12 := (((Fr.pu hp18).trans hf10 fun i hi _ => hi).trans hf11 fun i hi _ => hi).trans (Fr.pu hp12) fun i hi _ => hi
  have S12 : WSt D w0 b rK rP rW rM w12 M := S1.fr hf12 (fun i hi => by have := S.pu.size; omega) (by omega) (by omega) (by omega) (by omega)
  have hb12 : w12.heap[w.heap.size]? = some (.cells #[.string (stkS rest), .string y, .int .i64 q.1, .int .i64 (n : Int)] 106) := by
    have := hp12.blk hb11
    rw [this]
    simp
  have j6 : w12.heap[w5.heap.size]? = some (.cells #[.int .i64 q.1, .int .i64 q.2] 61) := hp12.blk (hf11.blk (hf10.blk k6 (by omega)) (by omega))
  have j8 : w12.heap[r8]? = some (.cells #[.int .i64 best] 3) := hf12.blk g8 (by omega)
  refine ⟨fun w' => w'.heap[r8]? = some (.cells #[.int .i64 best] 3) ∧ w'.heap[w5.heap.size]? = some (.cells #[.int .i64 q.1, .int .i64 q.2] 61) ∧ w'.heap[rW]? = some (.cells #[worstFn rK rP rW] 104) ∧ w'.heap[w.heap.size]? = some (.cells #[.string (stkS rest), .string y, .int .i64 q.1, .int .i64 (n : Int)] 106),
    ⟨j8, j6, S12.f, hb12⟩, best, fun w' h => by rw [cell_blk h.1]; rfl, q.2, fun w' h => by rw [add_def, cell_blk h.2.1]; rfl, worstFn rK rP rW, fun w' h => by rw [cell_blk h.2.2.1]; rfl,
    stkS rest, fun w' h => by rw [add_def, cell_blk h.2.2.2]; rfl, y, fun w' h => by rw [add_def, cell_blk h.2.2.2]; rfl, q.1, fun w' h => by rw [cell_blk h.2.2.2]; rfl, (n : Int), fun w' h => by rw [cell_blk h.2.2.2]; rfl, by kernel_rfl, ?_⟩
  refine Calls.mono (ih rest y q.1 w12 M hn hr hy S12) ?_
  rintro e w15 ⟨rfl, M', S15, hf15⟩
  have m8 := hf15.blk j8 d8
  refine ⟨_, rfl, ⟨m8, hf15.blk j6 (by omega), S15.f, hf15.blk hb12 (by omega)⟩, _, w15, max_run _ _ _ _ _ _, ?_⟩
  rw [wrap_in (by omega) (by omega)]
  refine st1_intro m8 (by show 0 < 1; omega) fun w18 hw18 hb18 => ?_
  have hf18 : Fr (· = r8) w15 w18 := by rw [hw18]; exact Fr.cell w15 _ _ _
  refine ⟨rfl, M', S15.fr hf18 (fun i hi => by omega) k8 p8 f8 (Ne.symm d8), ?_, hb18⟩
  refine (((Fr.pu hp1).trans hf12 fun i hi hlt => ?_).trans hf15 fun i hi _ => .inl hi).trans hf18 fun i hi _ => .inr hi
  omega
end
end Go.Proofs.Ytcnenlmhbpijlaa
