/- The disk: a page that is read or written. -/
import Derived.Test.YtnigfiljenfgjaaGreatDzE
set_option maxRecDepth 100000
set_option linter.unusedVariables false
set_option linter.unusedSimpArgs false
namespace Go.Proofs.YtnigfiljenfgjaaGreat
open Go.Sh Go.RowKit

/-- The bytes below the m-th of a page that are wanted and not known are fetched. -/
def wantP (at_ n : Nat) (f : List UInt8) (kk m : Nat) (p : Page) : Page where
  b := fun j => if j < m ∧ (at_ ≤ kk * 32 + j ∧ kk * 32 + j < at_ + n) ∧ kk * 32 + j < f.length ∧ p.kn j = false then f.getD (kk * 32 + j) 0 else p.b j
  kn := fun j => p.kn j || decide (j < m ∧ (at_ ≤ kk * 32 + j ∧ kk * 32 + j < at_ + n) ∧ kk * 32 + j < f.length)
  di := p.di
theorem wantP_zero (at_ n : Nat) (f : List UInt8) (kk : Nat) (p : Page) : wantP at_ n f kk 0 p = p := Page.ext' (fun j => by simp [wantP]) (fun j => by simp [wantP]) (fun j => rfl)
theorem wantP_step (at_ n : Nat) (f : List UInt8) (kk m : Nat) (p : Page) {x : UInt8} (hw : at_ ≤ kk * 32 + m ∧ kk * 32 + m < at_ + n) (hx : f[kk * 32 + m]? = some x) (hk : p.kn m = false) :
    ({ (wantP at_ n f kk m p) with b := upN (wantP at_ n f kk m p).b m x, kn := upN (wantP at_ n f kk m p).kn m true } : Page) = wantP at_ n f kk (m + 1) p := by
  have hl := (List.getElem?_eq_some_iff.1 hx).1
  refine Page.ext' (fun j => ?_) (fun j => ?_) (fun j => rfl)
  · simp only [upN, wantP]
    by_cases e : j = m
    · subst e; simp [hl, hk, hx, hw, (List.getElem?_eq_some_iff.1 hx).2]
    · have : j < m + 1 ↔ j < m := by omega
      simp [e, this]
  · simp only [upN, wantP]
    by_cases e : j = m
    · subst e; simp [hl, hw]
    · have : j < m + 1 ↔ j < m := by omega
      simp [e, this]
theorem wantP_skip (at_ n : Nat) (f : List UInt8) (kk m : Nat) (p : Page) (hk : p.kn m = true ∨ ¬ kk * 32 + m < f.length ∨ ¬ (at_ ≤ kk * 32 + m ∧ kk * 32 + m < at_ + n)) : wantP at_ n f kk m p = wantP at_ n f kk (m + 1) p := by
  refine Page.ext' (fun j => ?_) (fun j => ?_) (fun j => rfl)
  · simp only [wantP]
    by_cases e : j = m
    · subst e; rcases hk with h | h | h
      · simp [h]
      · simp [h]
      · have : ¬ (j < j + 1 ∧ (at_ ≤ kk * 32 + j ∧ kk * 32 + j < at_ + n) ∧ kk * 32 + j < f.length ∧ p.kn j = false) := fun h' => h h'.2.1
        simp only [this, if_false]
        simp
    · have : j < m + 1 ↔ j < m := by omega
      simp [this]
  · simp only [wantP]
    by_cases e : j = m
    · subst e; rcases hk with h | h | h
      · simp [h]
      · simp [h]
      · have : ¬ (j < j + 1 ∧ (at_ ≤ kk * 32 + j ∧ kk * 32 + j < at_ + n) ∧ kk * 32 + j < f.length) := fun h' => h h'.2.1
        simp only [this, decide_false]
        simp
    · have : j < m + 1 ↔ j < m := by omega
      simp [this]
theorem wantP_kn (at_ n : Nat) (f : List UInt8) (kk m : Nat) (p : Page) : (wantP at_ n f kk m p).kn m = p.kn m := by simp [wantP]

/-- The page that is read or written. -/
def pageR (σ : Sys) (u : Nat) (name : ByteArray) (kk at_ n : Nat) (f : List UInt8) : Page :=
  match AL.get (σ.caches u) (name, (kk : Int)) with
  | none => fetchP f kk 32 Page.zero
  | some p => wantP at_ n f kk 32 p

theorem page_c {w : World} {d : Lay} {mu : Int} {σ : Sys} (h : SysAt w d mu σ) {u : Nat} (hu : u < 4) {name : ByteArray} {kk at_ n : Nat} (hkk : kk ≤ 1000000) (hat : at_ ≤ 1000000) (hn : n ≤ 1000000) {f : List UInt8} (hf : AL.get σ.files name = some f) (hfl : f.length ≤ 1000000) :
    Calls Tryz.prog 95 #[d.ptr, .int .i64 (u : Int), ekP (name, (kk : Int)), .int .i64 (at_ : Int), .int .i64 (n : Int)] w fun e w' => e = .returned (evP (pageR σ u name kk at_ n f)) ∧ Pu w w' := by
  refine F95_calls _ _ name (kk : Int) _ _ w _ ?_
  refine alE_intro fun w1 hw1 => alE_intro fun w2 hw2 => dwE_intro fun w3 hp3 hh3 => ?_
  have hp1 : Pu w w1 := by rw [hw1]; exact Pu.alloc w _
  have hp2 : Pu w1 w2 := by rw [hw2]; exact Pu.alloc w1 _
  have hb1 : w1.heap[w.heap.size]? = some (.cells #[.string name, .int .i64 (kk : Int)] 92) := by rw [hw1]; exact alloc_new w _
  have hs1 : w1.heap.size = w.heap.size + 1 := by rw [hw1]; simp
  have hb2 : w2.heap[w1.heap.size]? = some (.cells (zc Tryz.prog 89) 89) := by rw [hw2]; exact alloc_new w1 _
  have hs2 : w2.heap.size = w.heap.size + 2 := by rw [hw2]; simp [hs1]
  have hs3 : w3.heap.size = w.heap.size + 2 := by rw [hh3]; exact hs2
  have h3 : SysAt w3 d mu σ := h.pu ((hp1.trans hp2).trans hp3)
  have hb13 := hp3.blk (hp2.blk hb1)
  refine ⟨fun w' => SysAt w' d mu σ ∧ w'.heap[w.heap.size]? = some (.cells #[.string name, .int .i64 (kk : Int)] 92), ⟨h3, hb13⟩, ?_⟩
  refine ⟨by omega, by omega, some (d.c u), fun w' h' => h'.1.cellC hu, name, fun w' h' => ?_, (kk : Int), fun w' h' => ?_, (pageOf σ u (name, (kk : Int))).cells, Page.size_cells _, _, fun w' h' => look_page_ok h'.1 hu (name, (kk : Int)), ?_⟩
  · rw [add_def, cell_blk h'.2]; rfl
  · rw [add_def, cell_blk h'.2]; rfl
  refine alE_intro fun w4 hw4 => ?_
  have hp4 : Pu w3 w4 := by rw [hw4]; exact Pu.alloc w3 _
  have hs4 : w4.heap.size = w.heap.size + 3 := by rw [hw4]; simp [hs3]
  have hb4 : w4.heap[w3.heap.size]? = some (.cells (zc Tryz.prog 89) 89) := by rw [hw4]; exact alloc_new w3 _
  refine ⟨⟨h3.pu hp4, hp4.blk hb13⟩, ?_⟩
  refine stA_fill hb4 (by rw [Page.size_cells, size61]) (by rw [zero61, Page.size_cells, Page.size_cells]) (Page.one _) fun w5 hb5 hf5 hs5 => ?_
  have hP5 : Pu w w5 := (((hp1.trans hp2).trans hp3).trans hp4).andNew hf5 fun i hi => by omega
  have hb15 : w5.heap[w.heap.size]? = some (.cells #[.string name, .int .i64 (kk : Int)] 92) := hf5.blk (hp4.blk hb13) (by omega)
  have hb25 : w5.heap[w1.heap.size]? = some (.cells (zc Tryz.prog 89) 89) := hf5.blk (hp4.blk (hp3.blk hb2)) (by omega)
  refine Br.of (fun hin => ?_) (fun hin => ?_)
  · have hno : AL.get (σ.caches u) (name, (kk : Int)) = none := by
      cases hg : AL.get (σ.caches u) (name, (kk : Int)) with
      | none => rfl
      | some p => rw [hg] at hin; cases hin
    refine ⟨name, by rw [add_def, cell_blk hb15]; rfl, (kk : Int), by rw [add_def, cell_blk hb15]; rfl, ?_⟩
    refine Calls.mono (fetched_c (h.pu hP5) hu hkk hf hfl) ?_
    rintro e w6 ⟨rfl, hp6⟩
    refine ⟨_, Page.size_cells _, rfl, ?_⟩
    refine stA_fill (hp6.blk hb25) (by rw [Page.size_cells, size61]) (by rw [zero61, Page.size_cells, Page.size_cells]) (Page.one _) fun w9 hb9 hf9 hs9 => ?_
    refine ⟨_, Page.size_cells _, cells_at hb9 96, ?_, (hP5.trans hp6).andNew hf9 fun i hi => by omega⟩
    simp only [pageR, pageOf, hno]; rfl
  · obtain ⟨p, hp⟩ : ∃ p, AL.get (σ.caches u) (name, (kk : Int)) = some p := by
      cases hg : AL.get (σ.caches u) (name, (kk : Int)) with
      | none => rw [hg] at hin; cases hin
      | some p => exact ⟨p, rfl⟩
    have hpo : pageOf σ u (name, (kk : Int)) = p := by simp [pageOf, hp]
    have hR : pageR σ u name kk at_ n f = wantP at_ n f kk 32 p := by simp [pageR, hp]
    rw [hpo] at hb5
    rw [hR]
    refine dwE_intro fun w6 hp6 hh6 => ?_
    have hP6 := hP5.trans hp6
    have h6 := h.pu hP6
    have hb16 := hp6.blk hb15
    have hb26 := hp6.blk hb25
    have hb36 := hp6.blk hb5
    obtain ⟨s, hl, hr, _, hmem, hsl⟩ := look_file h6 hf
    have hbo : ∀ b ∈ blkOf s, b < w.heap.size := fun b hb => h.lt b (Lay.mem_file hmem b hb)
    refine ⟨some d.M, h6.cellM, name, by rw [cell_blk hb16]; rfl, s, hl, ?_⟩
    have hs6 : w6.heap.size = w.heap.size + 3 := by rw [hh6, hs5, hs4]
    refine loopUp 32 (fun k t w' => t = (k : Int) ∧ Fr (· = w3.heap.size) w6 w' ∧ w'.heap.size = w6.heap.size ∧ w'.heap[w3.heap.size]? = some (.cells (wantP at_ n f kk k p).cells 89)) ⟨rfl, Fr.refl _ _, rfl, by rw [wantP_zero]; exact hb36⟩ ?_
    rintro k J t w' hk ⟨rfl, hfr, hsz, hpg⟩ hJ
    have hrw : RowAt w' 5 1 s (f.map u8V) := hr.fr hfr fun b hb e => by have := hbo b hb; omega
    have hb1w : w'.heap[w.heap.size]? = some (.cells #[.string name, .int .i64 (kk : Int)] 92) := hfr.blk hb16 (by omega)
    refine Br.of (fun hlt => ?_) (fun hge => ?_)
    · have hlt' : k < 32 := by have := dtrue hlt; omega
      have skip : (p.kn k = true ∨ ¬ kk * 32 + k < f.length ∨ ¬ (at_ ≤ kk * 32 + k ∧ kk * 32 + k < at_ + n)) → J (IntKind.i64.wrap ((k : Int) + 1)) w' := fun hsk => by
        rw [wrap_in (by omega) (by omega)]
        exact hJ _ _ hlt' ⟨by omega, hfr, hsz, by rw [hpg, wantP_skip _ _ _ _ _ _ hsk]⟩
      refine ⟨(kk : Int), by rw [add_def, cell_blk hb1w]; rfl, ?_⟩
      rw [wrap_in (n := (kk : Int) * 32) (by omega) (by omega), wrap_in (n := (kk : Int) * 32 + (k : Int)) (by omega) (by omega), wrap_in (n := (at_ : Int) + (n : Int)) (by omega) (by omega), hsl]
      refine Br.of (fun c1 => Br.of (fun c2 => Br.of (fun c3 => ?_) (fun c3 => ?_)) (fun c2 => ?_)) (fun c1 => ?_)
      · have c1 := dtrue c1
        have c2 := dtrue c2
        have c3 := dtrue c3
        have hin' : kk * 32 + k < f.length := by omega
        refine ⟨by omega, by omega, _, by rw [add_def, add_def, cell_blk hpg]; simpa using Page.get_kn _ hlt', ?_⟩
        rw [wantP_kn]
        refine Br.of (fun hkn => ?_) (fun hkn => skip (.inl (by simpa using hkn)))
        have hkn : p.kn k = false := by simpa using hkn
        refine dwE_intro fun w7 hp7 hh7 => ?_
        obtain ⟨x, hx⟩ : ∃ x, f[kk * 32 + k]? = some x := ⟨_, List.getElem?_eq_getElem hin'⟩
        obtain ⟨a, ha, hca, hba⟩ := hrw.cell (j := kk * 32 + k) (v := u8V x) (by rw [List.getElem?_map, hx]; rfl)
        have hba' := hbo _ hba
        refine ⟨fun v => v.cell? (a.add (kk * 32 + k)) = some (u8V x), hp7.cell hca, ?_⟩
        refine ⟨a, ha, by omega, by omega, _, fun v hv => by rw [show ((kk : Int) * 32 + (k : Int)).toNat * 1 = kk * 32 + k by omega]; exact hv, by omega, by omega, ?_⟩
        rw [add_def, add_def, ptrE_some]
        refine st1_intro (hp7.blk hpg) (by rw [Page.size_cells]; omega) fun w8 hw8 hb8 => ?_
        have hf8 : Fr (· = w3.heap.size) w7 w8 := by rw [hw8]; exact Fr.cell w7 _ _ _
        refine ⟨?_, by omega, by omega, ?_⟩
        · have : (a.add (kk * 32 + k)).block = a.block := by unfold Addr.add; split <;> rfl
          show w8.cell? _ = _
          rw [World.cell?_of_block (hf8.block _ (by rw [this]; exact Nat.lt_of_lt_of_le hba' (by rw [hh7, hsz, hs6]; omega)) (by rw [this]; omega))]
          exact hp7.cell hca
        rw [add_def]
        refine st1_intro hb8 (by simp [Page.size_cells]; omega) fun w9 hw9 hb9 => ?_
        have hf9 : Fr (· = w3.heap.size) w8 w9 := by rw [hw9]; exact Fr.cell w8 _ _ _
        show J _ _
        rw [wrap_in (by omega) (by omega)]
        refine hJ _ _ hlt' ⟨by omega, ((hfr.trans (Fr.pu hp7 : Fr (· = w3.heap.size) w' w7) fun i hi _ => hi).trans hf8 fun i hi _ => hi).trans hf9 fun i hi _ => hi, by rw [hw9, hw8]; simp; rw [hh7, hsz], ?_⟩
        rw [hb9]
        have e1 : 0 + 32 + (k : Int).toNat * 1 = 32 + k := by omega
        have e2 : 0 + (k : Int).toNat * 1 = k := by omega
        rw [e1, e2, Page.set_kn _ hlt']
        have := Page.set_b ({ (wantP at_ n f kk k p) with kn := upN (wantP at_ n f kk k p).kn k true } : Page) hlt' x
        rw [show Value.int .u8 ((x.toNat : Nat) : Int) = u8V x from rfl, this, ← wantP_step at_ n f kk k _ (by omega) hx hkn]
      · exact skip (.inr (.inl (by have := dfalse c3; omega)))
      · exact skip (.inr (.inr (by have := dfalse c2; omega)))
      · exact skip (.inr (.inr (by have := dfalse c1; omega)))
    · have : k = 32 := by have := dfalse hge; omega
      subst this
      have hb26w : w'.heap[w1.heap.size]? = some (.cells (zc Tryz.prog 89) 89) := hfr.blk hb26 (by omega)
      refine ⟨_, Page.size_cells _, cells_at hpg 96, ?_⟩
      refine stA_fill hb26w (by rw [Page.size_cells, size61]) (by rw [zero61, Page.size_cells, Page.size_cells]) (Page.one _) fun w9 hb9 hf9 hs9 => ?_
      exact ⟨_, Page.size_cells _, cells_at hb9 96, rfl, (hP6.andNew hfr fun i hi => by omega).andNew hf9 fun i hi => by omega⟩
end Go.Proofs.YtnigfiljenfgjaaGreat
