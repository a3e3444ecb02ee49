/- The disk: finding and deleting a lock. -/
import Derived.Test.YtnigfiljenfgjaaDkQ
import Derived.Test.YtnigfiljenfgjaaShSixteen
set_option maxRecDepth 100000
set_option linter.unusedVariables false
set_option linter.unusedSimpArgs false
set_option linter.unusedSectionVars false
namespace Go.Proofs.Ytnigfiljenfgjaa
open Go.Sh Go.RowKit

theorem struct70 : structB Try.prog 70 [some .i64, none, some .i64, some .i64] = true := by kernel_rfl
theorem guard70 : Try.prog.eqGuardType Try.prog.depth 70 = false := by kernel_rfl
theorem eqLock (l k : Lock) (x y : Operand) (w : World) : (eqS .eql 70 x y (.agg #[.int .i64 l.u, .string l.name, .int .i64 l.at_, .int .i64 l.n]) (.agg #[.int .i64 k.u, .string k.name, .int .i64 k.at_, .int .i64 k.n])).run Try.prog w = .ok (.bool (decide (l = k))) w := by
  refine eqS_row (ks := [some .i64, none, some .i64, some .i64]) (xs := l.cells) (ys := k.cells) struct70 guard70 rfl rfl ?_ w
  rw [decide_eq_true_iff]
  constructor
  · rintro rfl; rfl
  · intro h
    obtain ⟨a, b, c, d⟩ := l
    obtain ⟨a', b', c', d'⟩ := k
    simpa [Lock.cells] using h

theorem index_c {w : World} {s : SV} {ls : List Lock} (hr : RowAt w 70 4 s (ls.flatMap Lock.cells)) (hlen : ls.length ≤ 1000000) (lk : Lock) :
    Calls Try.prog 27 #[.slice s.a s.len s.cap, lk.val] w fun e w' => ∃ n : Int, e = .returned (.int .i64 n) ∧ Pu w w' ∧ ((n = -1 ∧ lk ∉ ls) ∨ ∃ k : Nat, n = k ∧ ls[k]? = some lk ∧ ∀ j, j < k → ls[j]? ≠ some lk) := by
  refine F27_calls s _ _ _ _ w _ ?_
  refine alE_intro fun w1 hw1 => ?_
  have hp1 : Pu w w1 := by rw [hw1]; exact Pu.alloc w _
  have hb1 : w1.heap[w.heap.size]? = some (.cells #[.int .i64 lk.u, .string lk.name, .int .i64 lk.at_, .int .i64 lk.n] 70) := by rw [hw1]; exact alloc_new w _
  have hsl : s.len = ls.length := by have := hr.1; rw [locks_len] at this; omega
  refine loopUp ls.length (fun k t w' => t = (k : Int) ∧ Pu w1 w' ∧ ∀ j, j < k → ls[j]? ≠ some lk) ⟨rfl, Pu.refl w1, fun j hj => by omega⟩ ?_
  rintro k J t w' hk ⟨rfl, hp, hall⟩ hJ
  rw [hsl]
  refine Br.of (fun hlt => ?_) (fun hge => ?_)
  · have hlt' : k < ls.length := by have := dtrue hlt; omega
    obtain ⟨l, hl⟩ : ∃ l, ls[k]? = some l := ⟨_, List.getElem?_eq_getElem hlt'⟩
    refine dwE_intro fun w2 hp2 hh2 => ?_
    have hb2 := hp2.blk (hp.blk hb1)
    obtain ⟨g, hga, hgc, hgb⟩ := (((hr.pu hp1).pu hp).pu hp2).base (fun e => by have := locks_len ls; rw [e] at this; simp at this; omega)
    have g0 := hgc _ _ (lock_get ls hl 0 _ rfl)
    have g1 := hgc _ _ (lock_get ls hl 1 _ rfl)
    have g2 := hgc _ _ (lock_get ls hl 2 _ rfl)
    have g3 := hgc _ _ (lock_get ls hl 3 _ rfl)
    refine ⟨lk.u, by rw [add_def, cell_blk hb2]; rfl, lk.name, by rw [add_def, cell_blk hb2]; rfl, lk.at_, by rw [add_def, cell_blk hb2]; rfl, lk.n, by rw [add_def, cell_blk hb2]; rfl,
      ⟨g, 0, none⟩, hga, by omega, by omega, l.u, ?_, l.name, ?_, l.at_, ?_, l.n, ?_, _, fun v => eqLock lk l _ _ v, Br.of (fun hb => ?_) (fun hb => ?_)⟩
    · rw [add_def, add_def, ← g0]; congr 2; omega
    · rw [add_def, add_def, ← g1]; congr 2; omega
    · rw [add_def, add_def, ← g2]; congr 2; omega
    · rw [add_def, add_def, ← g3]; congr 2; omega
    · have hb := dtrue hb
      subst hb
      exact ⟨_, rfl, (hp1.trans hp).trans hp2, .inr ⟨k, rfl, hl, hall⟩⟩
    · have hb := dfalse hb
      rw [wrap_in (by omega) (by omega)]
      refine hJ _ _ hlt' ⟨by omega, hp.trans hp2, fun j hj => ?_⟩
      by_cases e : j = k
      · subst e; rw [hl]; simp; exact fun e => hb e.symm
      · exact hall j (by omega)
  · have hk' : k = ls.length := by have := dfalse hge; omega
    subst hk'
    refine ⟨-1, rfl, hp1.trans hp, .inl ⟨rfl, fun hm => ?_⟩⟩
    obtain ⟨j, hj, e⟩ := List.getElem_of_mem hm
    exact hall j hj (by rw [List.getElem?_eq_getElem hj, e])

theorem flat_take (ls : List Lock) : ∀ k, (ls.flatMap Lock.cells).take (k * 4) = (ls.take k).flatMap Lock.cells := by
  induction ls with
  | nil => intro k; simp
  | cons l ls ih =>
    intro k
    cases k with
    | zero => simp
    | succ k =>
      simp only [List.flatMap_cons, List.take_succ_cons]
      rw [List.take_append, show (k + 1) * 4 - l.cells.length = k * 4 by simp [Lock.cells]; omega, ih k, List.take_of_length_le (by simp [Lock.cells]; omega)]
theorem flat_drop (ls : List Lock) : ∀ k, (ls.flatMap Lock.cells).drop (k * 4) = (ls.drop k).flatMap Lock.cells := by
  induction ls with
  | nil => intro k; simp
  | cons l ls ih =>
    intro k
    cases k with
    | zero => simp
    | succ k =>
      simp only [List.flatMap_cons, List.drop_succ_cons]
      rw [List.drop_append, show (k + 1) * 4 - l.cells.length = k * 4 by simp [Lock.cells]; omega, ih k, List.drop_of_length_le (by simp [Lock.cells]; omega)]
      rfl
theorem one_cells (ls : List Lock) : ∀ v ∈ ls.flatMap Lock.cells, v.oneCell' = true := fun v hv => by
  obtain ⟨l, _, h⟩ := List.mem_flatMap.1 hv
  simp only [Lock.cells, List.mem_cons, List.not_mem_nil, or_false] at h
  rcases h with rfl | rfl | rfl | rfl <;> rfl

theorem zval70 (w : World) : (zeroValue 70).run Try.prog w = .ok (.agg #[.int .i64 0, .string ⟨#[]⟩, .int .i64 0, .int .i64 0]) w := by
  have h : ((Try.prog.info? 70).bind (·.zero)) = some (.agg #[.int .i64 0, .string ⟨#[]⟩, .int .i64 0, .int .i64 0]) := by kernel_rfl
  obtain ⟨i, hi, hz⟩ := Option.bind_eq_some_iff.1 h
  simp [zeroValue, typeInfo, hi, hz]
theorem elem50 : Try.prog.elem 50 = 70 := by kernel_rfl
theorem clearOne {w : World} {g o c : Nat} {cur : Array Value} (hg : w.heap[g]? = some (.cells cur 70)) (ho : o + 4 ≤ cur.size) :
    ∃ w', (Builtin.clear_ #[50] 0 #[.slice (some ⟨g, o, none⟩) 1 c]).run Try.prog w = .ok (.tuple #[]) w' ∧ w'.heap[g]? = some (.cells (cur.toList.take o ++ (⟨0, ⟨#[]⟩, 0, 0⟩ : Lock).cells ++ cur.toList.drop (o + 4)).toArray 70) ∧ Fr (· = g) w w' ∧ w'.heap.size = w.heap.size := by
  have hst := run_storeCells_at Try.prog g o 70 (⟨0, ⟨#[]⟩, 0, 0⟩ : Lock).cells 0 cur w hg (by simpa [Lock.cells] using ho) (by intro v hv; exact one_cells [⟨0, ⟨#[]⟩, 0, 0⟩] v (by simpa using hv))
  have hz : (Builtin.zeroCells (Value.agg #[.int .i64 0, .string ⟨#[]⟩, .int .i64 0, .int .i64 0]).cells 1).toList = (⟨0, ⟨#[]⟩, 0, 0⟩ : Lock).cells := by kernel_rfl
  refine ⟨_, ?_, setRow_heap w g cur _ _ (0, 0) hg, ⟨rfl, rfl, rfl, by simp, fun k _ hk => setRow_other w g k _ hk⟩, by simp⟩
  simp only [Nat.add_zero, Nat.zero_add] at hst
  simp [Builtin.clear_, run_underlying u50', zval70, hz, hst]
  rfl
end Go.Proofs.Ytnigfiljenfgjaa
