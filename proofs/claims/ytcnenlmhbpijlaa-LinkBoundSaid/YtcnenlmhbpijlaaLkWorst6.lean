import Derived.Test.YtcnenlmhbpijlaaLkWorst5
/- Link: the program's search for the worst walk, by steps. No condition but the reach's. -/
set_option maxRecDepth 100000
set_option linter.unusedVariables false
set_option linter.unusedSimpArgs false
namespace Go.Proofs.Ytcnenlmhbpijlaa
open Go.Sh Go.RowKit

theorem MemoOK.put {D : List PDat} {M : List (WK × Int)} (h : MemoOK D M) {n : Nat} {rest : List ByteArray} {top : ByteArray} {room : Int} (hr : ∀ x ∈ rest, nameB x = true) : MemoOK D (AL.put M ⟨stkS rest, top, room, (n : Int)⟩ (WS D n rest top room)) := by
  intro k v hv rest' hr' hk
  rw [AL.get_put] at hv
  split at hv
  · rename_i e
    subst e
    have hv := (Option.some.inj hv).symm
    have : rest = rest' := stkS_inj (fun x hx => (name_nosp (hr x hx)).1) hr' hk
    subst this
    exact ⟨Int.natCast_nonneg n, by rw [hv]; simp⟩
  · exact h k v hv rest' hr' hk

/-- One more way tried. -/
def bestS (D : List PDat) (n : Nat) (rest : List ByteArray) (room : Int) (y : ByteArray) : Int := (enterR (getD D y).1 (room, 0)).2 + WS D n rest y (enterR (getD D y).1 (room, 0)).1
theorem bestS_bounds (D : List PDat) (n : Nat) (rest : List ByteArray) (room : Int) (y : ByteArray) : 0 ≤ bestS D n rest room y ∧ bestS D n rest room y ≤ n + 1 := by
  have h1 := enter_one (getD D y).1 room
  have h2 := WS_bounds D n rest y (enterR (getD D y).1 (room, 0)).1
  unfold bestS
  omega
theorem bestL_bounds (D : List PDat) (n : Nat) (rest : List ByteArray) (room : Int) (l : List ByteArray) : 0 ≤ (l.map (bestS D n rest room)).foldl max 0 ∧ (l.map (bestS D n rest room)).foldl max 0 ≤ n + 1 :=
  ⟨(foldl_max_ge _ 0).1, foldl_max_le _ 0 (by omega) fun x hx => by obtain ⟨y, _, rfl⟩ := List.mem_map.1 hx; exact (bestS_bounds D n rest room y).2⟩
theorem WS_succ (D : List PDat) (n : Nat) (rest : List ByteArray) (top : ByteArray) (room : Int) : WS D (n + 1) rest top room = match rest with
    | [] => ((setS (getD D top).2).map (bestS D n (top :: rest) room)).foldl max 0
    | t :: r => max (((setS (getD D top).2).map (bestS D n (top :: rest) room)).foldl max 0) (bestS D n r room t) := by
  cases rest <;> rfl

section
variable {D : List PDat} {w0 : World} {b rK rP rW rM : Nat} {L : List PRow}

set_option maxHeartbeats 2000000 in
theorem worst_step (hC : WCtx w0 b L D) (hK : rK ≠ rM) (hP : rP ≠ rM) (hW : rW ≠ rM) (hM0 : w0.heap.size ≤ rM) (n : Nat) (ih : ∀ m, n = m + 1 → WorstC D w0 b rK rP rW rM m) : WorstC D w0 b rK rP rW rM n := by
  intro rest top room w M hn hr ht S
  refine F83_calls _ _ _ _ _ _ _ w _ ?_
  refine alE_intro fun w1 hw1 => ?_
  have hp1 : Pu w w1 := by rw [hw1]; exact Pu.alloc w _
  have z1 : w1.heap.size = w.heap.size + 1 := by rw [hw1]; simp
  have hb4 : w1.heap[w.heap.size]? = some (.cells #[.string (stkS rest), .string top, .int .i64 room, .int .i64 (n : Int)] 106) := by rw [hw1]; exact alloc_new w _
  have S1 := S.pu' hp1
  have lK := blk_lt S.k
  have lP := blk_lt S.p
  have lW := blk_lt S.f
  have lM := S.m.lt
  have hs0 := S.pu.size
  have hsp : ∀ x ∈ rest, NoSp x := fun x hx => (name_nosp (hr x hx)).1
  refine ⟨some rM, by rw [cell_blk S1.k]; rfl, stkS rest, by rw [add_def, cell_blk hb4]; rfl, top, by rw [add_def, cell_blk hb4]; rfl, room, by rw [add_def, cell_blk hb4]; rfl, (n : Int), by rw [add_def, cell_blk hb4]; rfl, _, _, w1, look103 S1.m ⟨stkS rest, top, room, (n : Int)⟩, Br.of (fun h => ?_) (fun h => ?_)⟩
  · obtain ⟨v, hv⟩ := Option.isSome_iff_exists.1 h
    have := (S.ok _ _ hv rest hsp rfl).2
    simp only [Int.toNat_natCast] at this
    exact ⟨by rw [hv, this]; rfl, M, S1, Fr.pu hp1⟩
  have hnone : AL.get M ⟨stkS rest, top, room, (n : Int)⟩ = none := by
    cases hg : AL.get M ⟨stkS rest, top, room, (n : Int)⟩ with
    | none => rfl
    | some v => rw [hg] at h; cases h
  refine ⟨(n : Int), by rw [add_def, cell_blk hb4]; rfl, Br.of (fun h0 => ?_) (fun h0 => ?_)⟩
  · have h0 : n = 0 := by have : (n : Int) = 0 := by simpa using h0
                          omega
    subst h0
    exact ⟨by rw [hnone]; rfl, M, S1, Fr.pu hp1⟩
  have h0 : n ≠ 0 := by intro e; subst e; simp at h0
  obtain ⟨m, rfl⟩ : ∃ m, n = m + 1 := ⟨n - 1, by omega⟩
  have ih := ih m rfl
  have hb4 : w1.heap[w.heap.size]? = some (.cells #[.string (stkS rest), .string top, .int .i64 room, .int .i64 ((m : Int) + 1)] 106) := hb4
  refine alE_intro fun w2 hw2 => ?_
  have hp2 : Pu w1 w2 := by rw [hw2]; exact Pu.alloc w1 _
  have z2 : w2.heap.size = w1.heap.size + 1 := by rw [hw2]; simp
  have hb8 : w2.heap[w1.heap.size]? = some (.cells #[.int .i64 0] 3) := by rw [hw2]; exact alloc_new w1 _
  refine st1_intro hb8 (by show 0 < 1; omega) fun w3 hw3 hb8 => ?_
  have hf3 : Fr (· = w1.heap.size) w2 w3 := by rw [hw3]; exact Fr.cell w2 _ _ _
  have z3 : w3.heap.size = w2.heap.size := by rw [hw3]; simp
  have hb8 : w3.heap[w1.heap.size]? = some (.cells #[.int .i64 0] 3) := hb8
  have hp13 : Pu w1 w3 := Pu.andNew hp2 hf3 fun i hi => by omega
  have S3 := S1.pu' hp13
  refine ⟨some b, by rw [cell_blk S3.p]; rfl, top, by rw [add_def, cell_blk (hp13.blk hb4)]; rfl, _, _, w3, (look57 (hC.m.pu S3.pu) top).2, ?_⟩
  refine setCount_c w3 _ _ ((hC.r.get top).2.2.pu S3.pu) (by have := hC.len top; omega) fun s' w4 hlen hrow hnew hp4 => ?_
  refine ⟨s', rfl, ?_⟩
  have S4 := S3.pu' hp4
  have z4 := hp4.size
  have g4 := hp4.blk (hp13.blk hb4)
  have g8 := hp4.blk hb8
  have hW1 := S4.m
  -- the end
  have fin : ∀ (w6 : World) (M6 : List (WK × Int)), WSt D w0 b rK rP rW rM w6 M6 → Fr (fun i => i = rM ∨ i = w1.heap.size) w4 w6 → w6.heap[w1.heap.size]? = some (.cells #[.int .i64 (WS D (m + 1) rest top room)] 3) →
      ∃ m68 : Option Nat, w6.cell? (⟨rK, 0, none⟩ : Addr) = some (.map m68) ∧
      ∃ s69_0 : ByteArray, w6.cell? ((⟨w.heap.size, 0, none⟩ : Addr).add 0) = some (.string s69_0) ∧
      ∃ s69_1 : ByteArray, w6.cell? ((⟨w.heap.size, 0, none⟩ : Addr).add 1) = some (.string s69_1) ∧
      ∃ n69_2 : Int, w6.cell? ((⟨w.heap.size, 0, none⟩ : Addr).add 2) = some (.int .i64 n69_2) ∧
      ∃ n69_3 : Int, w6.cell? ((⟨w.heap.size, 0, none⟩ : Addr).add 3) = some (.int .i64 n69_3) ∧
      ∃ n70 : Int, w6.cell? (⟨w1.heap.size, 0, none⟩ : Addr) = some (.int .i64 n70) ∧
      doE Try.prog (Instr.mapUpdate 103 (.map m68) (.agg #[.string s69_0, .string s69_1, .int .i64 n69_2, .int .i64 n69_3]) (.int .i64 n70)) w6 fun w10 =>
      ∃ n71 : Int, w10.cell? (⟨w1.heap.size, 0, none⟩ : Addr) = some (.int .i64 n71) ∧
      runD Try.prog [] w10 fun w12 =>
      (Ending.returned (.int .i64 n71) = .returned (.int .i64 (WS D (m + 1) rest top room)) ∧ ∃ M', WSt D w0 b rK rP rW rM w12 M' ∧ Fr (· = rM) w w12) := fun w6 M6 S6 hf6 hb6 => by
    have j4 := hf6.blk g4 (by omega)
    refine ⟨some rM, by rw [cell_blk S6.k]; rfl, stkS rest, by rw [add_def, cell_blk j4]; rfl, top, by rw [add_def, cell_blk j4]; rfl, room, by rw [add_def, cell_blk j4]; rfl, (m : Int) + 1, by rw [add_def, cell_blk j4]; rfl, WS D (m + 1) rest top room, by rw [cell_blk hb6]; rfl, ?_⟩
    obtain ⟨w10, hrun, hm10, hf10, hz10⟩ := put103 S6.m ⟨stkS rest, top, room, (m : Int) + 1⟩ (WS D (m + 1) rest top room)
    refine ⟨w10, hrun, WS D (m + 1) rest top room, by rw [cell_blk (hf10.blk hb6 (by omega))]; rfl, rfl, AL.put M6 ⟨stkS rest, top, room, ((m + 1 : Nat) : Int)⟩ (WS D (m + 1) rest top room), ?_, ?_⟩
    · exact ⟨Pu.andNew S6.pu hf10 fun i hi => by omega, hf10.blk S6.k hK, hf10.blk S6.p hP, hf10.blk S6.f hW, hm10, S6.ok.put hr⟩
    · refine ((((Fr.pu hp1).trans (Fr.pu hp13) fun i hi _ => hi).trans (Fr.pu hp4) fun i hi _ => hi).trans hf6 fun i hi hlt => ?_).trans hf10 fun i hi _ => hi
      omega
  have hsz : ∀ r : List ByteArray, (∀ x ∈ r, nameB x = true) → r.length ≤ 1000 → (stkS r).size ≤ 11000 := fun r h1 h2 => by have := stkS_size h1; omega
  have htop := (name_nosp ht).2
  have hlim : (setS (getD D top).2).length ≤ 100 := by
    have h1 := cptFrom_len (srt (getD D top).2) none
    rw [srt_length] at h1
    have h2 := hC.len top
    show (cptFrom none _).length ≤ 100
    omega
  refine loopUp (setS (getD D top).2).length (fun k t w' => t = (k : Int) ∧ ∃ M', WSt D w0 b rK rP rW rM w' M' ∧ Fr (fun i => i = rM ∨ i = w1.heap.size) w4 w' ∧ w'.heap[w1.heap.size]? = some (.cells #[.int .i64 ((((setS (getD D top).2).take k).map (bestS D m (top :: rest) room)).foldl max 0)] 3))
    ⟨rfl, M, S4, Fr.refl _ _, g8⟩ ?_
  rintro k J t w5 hk ⟨rfl, M5, S5, hf5, hb5⟩ hJ
  have hbd := bestL_bounds D m (top :: rest) room ((setS (getD D top).2).take k)
  have j4 := hf5.blk g4 (by omega)
  have hns : ∀ x ∈ top :: rest, nameB x = true := fun x hx => by
    rcases List.mem_cons.1 hx with rfl | hx
    · exact ht
    · exact hr x hx
  refine Br.of (fun hlt => ?_) (fun hge => ?_)
  · have hlt' : k < (setS (getD D top).2).length := by have := dtrue hlt; omega
    obtain ⟨y, hy⟩ := at_k hlt'
    have hrow5 : RowAt w5 9 1 s' (strV (setS (getD D top).2)) := hrow.fr hf5 fun i hi hx => by have := hnew i hi; omega
    obtain ⟨a, ha, hc, _⟩ := hrow5.cell (j := k) (v := .string y) (by simp [hy])
    have hyn : nameB y = true := hC.name top y (mem_setS.1 (List.mem_of_getElem? hy))
    have hsr := hsz rest hr (by omega)
    have hs1 : (⟨#[32]⟩ : ByteArray).size = 1 := rfl
    have hs2 : (stkS rest ++ (⟨#[32]⟩ : ByteArray)).size = (stkS rest).size + 1 := by rw [ByteArray.size_append]; rfl
    refine ⟨a, ha, by omega, by omega, y, by simpa using hc, stkS rest, by rw [cell_blk j4]; rfl, by omega, top, by rw [add_def, cell_blk j4]; rfl, by omega, by kernel_rfl, ?_⟩
    refine Calls.mono (try_c hC hK hP hW hM0 ih (top :: rest) y (by simp only [List.length_cons]; omega) hns hyn w5 M5 S5 w.heap.size w1.heap.size (stkS rest) top room _ hbd.1 hbd.2 j4 hb5 (by omega) (by omega) (by omega) (by omega) (by omega) (by omega) (by omega)) ?_
    rintro e w6 ⟨rfl, M6, S6, hf6, hb6⟩
    refine ⟨rfl, ?_⟩
    rw [wrap_in (by omega) (by omega)]
    refine hJ _ _ hlt' ⟨rfl, M6, S6, hf5.trans hf6 fun i hi _ => hi, ?_⟩
    rw [take_at hy, List.map_append, List.foldl_append]
    exact hb6
  · have hge' : ¬ k < (setS (getD D top).2).length := by have := dfalse hge; omega
    rw [List.take_of_length_le (by omega)] at hb5 hbd
    refine ⟨stkS rest, by rw [cell_blk j4]; rfl, ?_⟩
    refine Calls.mono (Try.strings_LastIndex_one (stkS rest) ⟨#[32]⟩ rfl (by have := hsz rest hr (by omega); omega) w5) ?_
    rintro e w6 ⟨rfl, rfl⟩
    refine ⟨_, rfl, ?_⟩
    rw [show (((⟨#[32]⟩ : ByteArray)[0]'(by decide)).toNat : Int) = 32 from rfl]
    cases rest with
    | nil =>
      rw [show stkS [] = ⟨#[]⟩ from rfl, last_none]
      refine Br.f rfl ?_
      exact fin w6 M5 S5 hf5 (by rw [WS_succ]; exact hb5)
    | cons t r =>
      have htn := hr t List.mem_cons_self
      have hrn : ∀ x ∈ r, nameB x = true := fun x hx => hr x (List.mem_cons_of_mem _ hx)
      have hsr := hsz r hrn (by simp only [List.length_cons] at hn; omega)
      have htl := (name_nosp htn).2
      rw [show stkS (t :: r) = (stkS r ++ space) ++ t from rfl, last_push _ _ (name_nosp htn).1]
      have hss : ((stkS r ++ space) ++ t).size = (stkS r).size + 1 + t.size := by rw [ByteArray.size_append, ByteArray.size_append]; rfl
      refine Br.t (by simp) ?_
      refine dwE_intro fun w7 hp7 hh7 => ?_
      have i4 := hp7.blk j4
      rw [wrap_in (by omega) (by omega), Int.toNat_natCast, show (((stkS r).size : Int) + 1).toNat = (stkS r).size + 1 by omega]
      refine ⟨(stkS r ++ space) ++ t, by rw [cell_blk i4]; rfl, by omega, by omega, by omega, (stkS r ++ space) ++ t, by rw [cell_blk i4]; rfl, by omega, by omega, by omega, by kernel_rfl, ?_⟩
      rw [pop_below, pop_top]
      have hb7 := hp7.blk hb5
      refine Calls.mono (try_c hC hK hP hW hM0 ih r t (by simp only [List.length_cons] at hn; omega) hrn htn w7 M5 (S5.pu' hp7) w.heap.size w1.heap.size (stkS (t :: r)) top room _ hbd.1 hbd.2 i4 hb7 (by omega) (by omega) (by omega) (by omega) (by omega) (by omega) (by omega)) ?_
      rintro e w8 ⟨rfl, M8, S8, hf8, hb8⟩
      refine ⟨rfl, ?_⟩
      exact fin w8 M8 S8 ((hf5.trans (Fr.pu hp7) fun i hi _ => hi).trans hf8 fun i hi _ => hi) (by rw [WS_succ]; exact hb8)
theorem worst_c (hC : WCtx w0 b L D) (hK : rK ≠ rM) (hP : rP ≠ rM) (hW : rW ≠ rM) (hM0 : w0.heap.size ≤ rM) : ∀ n, WorstC D w0 b rK rP rW rM n := by
  intro n
  induction n with
  | zero => exact worst_step hC hK hP hW hM0 0 fun m h => by omega
  | succ n ih => exact worst_step hC hK hP hW hM0 (n + 1) fun m h => by rw [show m = n by omega]; exact ih
end
end Go.Proofs.Ytcnenlmhbpijlaa
