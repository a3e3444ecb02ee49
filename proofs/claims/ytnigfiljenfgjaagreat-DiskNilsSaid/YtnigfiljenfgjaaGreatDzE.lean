/- The disk: fetching a page. -/
import Derived.Test.YtnigfiljenfgjaaGreatDzD
set_option maxRecDepth 100000
set_option linter.unusedVariables false
set_option linter.unusedSimpArgs false
namespace Go.Proofs.YtnigfiljenfgjaaGreat
open Go.Sh Go.RowKit

theorem Page.ext' {p q : Page} (hb : ∀ j, p.b j = q.b j) (hk : ∀ j, p.kn j = q.kn j) (hd : ∀ j, p.di j = q.di j) : p = q := by
  cases p; cases q; simp only [Page.mk.injEq]; exact ⟨funext hb, funext hk, funext hd⟩
/-- The bytes below the m-th of a page that are not known are fetched. -/
def fetchP (f : List UInt8) (kk m : Nat) (p : Page) : Page where
  b := fun j => if j < m ∧ kk * 32 + j < f.length ∧ p.kn j = false then f.getD (kk * 32 + j) 0 else p.b j
  kn := fun j => p.kn j || decide (j < m ∧ kk * 32 + j < f.length)
  di := p.di
theorem fetchP_zero (f : List UInt8) (kk : Nat) (p : Page) : fetchP f kk 0 p = p := Page.ext' (fun j => by simp [fetchP]) (fun j => by simp [fetchP]) (fun j => rfl)
theorem fetchP_step (f : List UInt8) (kk m : Nat) (p : Page) {x : UInt8} (hx : f[kk * 32 + m]? = some x) (hk : p.kn m = false) :
    ({ (fetchP f kk m p) with b := upN (fetchP f kk m p).b m x, kn := upN (fetchP f kk m p).kn m true } : Page) = fetchP f kk (m + 1) p := by
  have hl := (List.getElem?_eq_some_iff.1 hx).1
  refine Page.ext' (fun j => ?_) (fun j => ?_) (fun j => rfl)
  · simp only [upN, fetchP]
    by_cases e : j = m
    · subst e; simp [hl, hk, hx, (List.getElem?_eq_some_iff.1 hx).2]
    · have : j < m + 1 ↔ j < m := by omega
      simp [e, this]
  · simp only [upN, fetchP]
    by_cases e : j = m
    · subst e; simp [hl]
    · have : j < m + 1 ↔ j < m := by omega
      simp [e, this]
theorem fetchP_skip (f : List UInt8) (kk m : Nat) (p : Page) (hk : p.kn m = true ∨ ¬ kk * 32 + m < f.length) : fetchP f kk m p = fetchP f kk (m + 1) p := by
  refine Page.ext' (fun j => ?_) (fun j => ?_) (fun j => rfl)
  · simp only [fetchP]
    by_cases e : j = m
    · subst e; rcases hk with h | h <;> simp [h]
    · have : j < m + 1 ↔ j < m := by omega
      simp [this]
  · simp only [fetchP]
    by_cases e : j = m
    · subst e; rcases hk with h | h <;> simp [h]
    · have : j < m + 1 ↔ j < m := by omega
      simp [this]
theorem fetchP_end (f : List UInt8) (kk m : Nat) (p : Page) (hm : ¬ kk * 32 + m < f.length) (hm2 : m ≤ 32) : fetchP f kk m p = fetchP f kk 32 p := by
  have key : ∀ n, m + n ≤ 32 → fetchP f kk m p = fetchP f kk (m + n) p := by
    intro n
    induction n with
    | zero => intro _; rfl
    | succ n ih => intro h; rw [ih (by omega), ← Nat.add_assoc]; exact fetchP_skip f kk (m + n) p (.inr (by omega))
  rw [key (32 - m) (by omega)]
  congr 1; omega
theorem fetchP_kn (f : List UInt8) (kk m : Nat) (p : Page) : (fetchP f kk m p).kn m = p.kn m := by simp [fetchP]

def pageOf (σ : Sys) (u : Nat) (p : Place) : Page := (AL.get (σ.caches u) p).getD Page.zero
theorem size61 : sizeB Tryz.prog 89 = 96 := by kernel_rfl
theorem size66 : sizeB Tryz.prog 92 = 2 := by kernel_rfl

theorem look_page {w : World} {d : Lay} {mu : Int} {σ : Sys} (h : SysAt w d mu σ) {u : Nat} (hu : u < 4) (p : Place) : (Instr.lookup 63 (.map (some (d.c u))) (ekP p) false).run Tryz.prog w = .ok (evP (pageOf σ u p)) w := by
  have := (h.ca u hu).look keysP u48 (zval61 w) p false
  rw [this]
  unfold pageOf
  cases AL.get (σ.caches u) p <;> rfl
theorem look_page_ok {w : World} {d : Lay} {mu : Int} {σ : Sys} (h : SysAt w d mu σ) {u : Nat} (hu : u < 4) (p : Place) : (Instr.lookup 63 (.map (some (d.c u))) (ekP p) true).run Tryz.prog w = .ok (.tuple #[evP (pageOf σ u p), .bool (AL.get (σ.caches u) p).isSome]) w := by
  have := (h.ca u hu).look keysP u48 (zval61 w) p true
  rw [this]
  unfold pageOf
  cases AL.get (σ.caches u) p <;> rfl
theorem look_file {w : World} {d : Lay} {mu : Int} {σ : Sys} (h : SysAt w d mu σ) {name : ByteArray} {f : List UInt8} (hf : AL.get σ.files name = some f) :
    ∃ s, (Instr.lookup 55 (.map (some d.M)) (.string name) false).run Tryz.prog w = .ok (.slice s.a s.len s.cap) w ∧ RowAt w 5 1 s (f.map u8V) ∧ AL.get d.fs name = some s ∧ (name, s) ∈ d.fs ∧ s.len = f.length := by
  rcases h.fl.get name with ⟨_, h2⟩ | ⟨s, b, h1, h2, h3, h4⟩
  · rw [hf] at h2; cases h2
  · rw [hf] at h2; cases h2
    have := h.mp.look keysS u40 (zval29 w) name false
    rw [h1] at this
    exact ⟨s, this, h3, h1, h4, u8V_map_len f h3⟩

theorem Lay.mem_file {d : Lay} {name : ByteArray} {s : SV} (h : (name, s) ∈ d.fs) : ∀ b ∈ blkOf s, b ∈ d.own := fun b hb => by
  simp only [Lay.own, List.mem_cons, List.mem_append, List.mem_flatMap]
  exact .inr (.inr (.inr (.inr (.inr (.inr (.inr ⟨_, h, hb⟩))))))
theorem cells_at {w : World} {b : Nat} {c : Array Value} {e : TypeId} (h : w.heap[b]? = some (.cells c e)) (n : Nat) : ∀ i, i < n → w.cell? ((⟨b, 0, none⟩ : Addr).add i) = c[i]? := fun i _ => by rw [add_def, cell_blk h, Nat.zero_add]

theorem fetched_c {w : World} {d : Lay} {mu : Int} {σ : Sys} (h : SysAt w d mu σ) {u : Nat} (hu : u < 4) {name : ByteArray} {kk : Nat} (hkk : kk ≤ 1000000) {f : List UInt8} (hf : AL.get σ.files name = some f) (hfl : f.length ≤ 1000000) :
    Calls Tryz.prog 113 #[d.ptr, .int .i64 (u : Int), ekP (name, (kk : Int))] w fun e w' => e = .returned (evP (fetchP f kk 32 (pageOf σ u (name, (kk : Int))))) ∧ Pu w w' := by
  refine F113_calls _ _ name (kk : Int) w _ ?_
  refine alE_intro fun w1 hw1 => alE_intro fun w2 hw2 => dwE_intro fun w3 hp3 hh3 => ?_
  have hp1 : Pu w w1 := by rw [hw1]; exact Pu.alloc w _
  have hp2 : Pu w1 w2 := by rw [hw2]; exact Pu.alloc w1 _
  have hb1 : w1.heap[w.heap.size]? = some (.cells #[.string name, .int .i64 (kk : Int)] 92) := by rw [hw1]; exact alloc_new w _
  have hs1 : w1.heap.size = w.heap.size + 1 := by rw [hw1]; simp
  have hb2 : w2.heap[w1.heap.size]? = some (.cells (zc Tryz.prog 89) 89) := by rw [hw2]; exact alloc_new w1 _
  have hs2 : w2.heap.size = w.heap.size + 2 := by rw [hw2]; simp [hs1]
  have hs3 : w3.heap.size = w.heap.size + 2 := by rw [hh3]; exact hs2
  have h3 : SysAt w3 d mu σ := h.pu ((hp1.trans hp2).trans hp3)
  have hb13 := hp3.blk (hp2.blk hb1)
  refine ⟨fun w' => SysAt w' d mu σ ∧ w'.heap[w.heap.size]? = some (.cells #[.string name, .int .i64 (kk : Int)] 92), ⟨h3, hb13⟩, ?_⟩
  refine ⟨by omega, by omega, some (d.c u), fun w' h' => h'.1.cellC hu, name, fun w' h' => ?_, (kk : Int), fun w' h' => ?_, (pageOf σ u (name, (kk : Int))).cells, Page.size_cells _, fun w' h' => look_page h'.1 hu (name, (kk : Int)), ?_⟩
  · rw [add_def, cell_blk h'.2]; rfl
  · rw [add_def, cell_blk h'.2]; rfl
  refine alE_intro fun w4 hw4 => ?_
  have hp4 : Pu w3 w4 := by rw [hw4]; exact Pu.alloc w3 _
  have hs4 : w4.heap.size = w.heap.size + 3 := by rw [hw4]; simp [hs3]
  have hb4 : w4.heap[w3.heap.size]? = some (.cells (zc Tryz.prog 89) 89) := by rw [hw4]; exact alloc_new w3 _
  refine ⟨⟨h3.pu hp4, hp4.blk hb13⟩, ?_⟩
  refine stA_fill hb4 (by rw [Page.size_cells, size61]) (by rw [zero61, Page.size_cells, Page.size_cells]) (Page.one _) fun w5 hb5 hf5 hs5 => ?_
  refine dwE_intro fun w6 hp6 hh6 => ?_
  have hP6 : Pu w w6 := (((hp1.trans hp2).trans hp3).trans hp4).andNew (hf5.trans (Fr.pu hp6 : Fr (· = w3.heap.size) w5 w6) fun i hi _ => hi) fun i hi => by omega
  have h6 := h.pu hP6
  have hb16 : w6.heap[w.heap.size]? = some (.cells #[.string name, .int .i64 (kk : Int)] 92) := hp6.blk (hf5.blk (hp4.blk hb13) (by omega))
  have hb26 : w6.heap[w1.heap.size]? = some (.cells (zc Tryz.prog 89) 89) := hp6.blk (hf5.blk (hp4.blk (hp3.blk hb2)) (by omega))
  have hb36 := hp6.blk hb5
  obtain ⟨s, hl, hr, _, hmem, hsl⟩ := look_file h6 hf
  have hbo : ∀ b ∈ blkOf s, b < w.heap.size := fun b hb => h.lt b (Lay.mem_file hmem b hb)
  refine ⟨some d.M, h6.cellM, name, by rw [cell_blk hb16]; rfl, s, hl, ?_⟩
  have hs6 : w6.heap.size = w.heap.size + 3 := by rw [hh6, hs5, hs4]
  refine loopUp 32 (fun k t w' => t = (k : Int) ∧ Fr (· = w3.heap.size) w6 w' ∧ w'.heap.size = w6.heap.size ∧ w'.heap[w3.heap.size]? = some (.cells (fetchP f kk k (pageOf σ u (name, (kk : Int)))).cells 89)) ⟨rfl, Fr.refl _ _, rfl, by rw [fetchP_zero]; exact hb36⟩ ?_
  rintro k J t w' hk ⟨rfl, hfr, hsz, hpg⟩ hJ
  have hrw : RowAt w' 5 1 s (f.map u8V) := hr.fr hfr fun b hb e => by have := hbo b hb; omega
  have hb1w : w'.heap[w.heap.size]? = some (.cells #[.string name, .int .i64 (kk : Int)] 92) := hfr.blk hb16 (by omega)
  have finish : ∀ m, m ≤ 32 → fetchP f kk k (pageOf σ u (name, (kk : Int))) = fetchP f kk 32 (pageOf σ u (name, (kk : Int))) →
      F113_1 (fun e w' => e = .returned (evP (fetchP f kk 32 (pageOf σ u (name, (kk : Int))))) ∧ Pu w w') (some ⟨w1.heap.size, 0, none⟩) (some ⟨w3.heap.size, 0, none⟩) [] w' := fun m _ he => by
    have hb26w : w'.heap[w1.heap.size]? = some (.cells (zc Tryz.prog 89) 89) := hfr.blk hb26 (by omega)
    refine ⟨_, Page.size_cells _, cells_at hpg 96, ?_⟩
    refine stA_fill hb26w (by rw [Page.size_cells, size61]) (by rw [zero61, Page.size_cells, Page.size_cells]) (Page.one _) fun w9 hb9 hf9 hs9 => ?_
    refine ⟨_, Page.size_cells _, cells_at hb9 96, ?_, ?_⟩
    · rw [he]; rfl
    · exact (hP6.andNew hfr fun i hi => by omega).andNew hf9 fun i hi => by omega
  refine Br.of (fun hlt => ?_) (fun hge => ?_)
  · have hlt' : k < 32 := by have := dtrue hlt; omega
    refine ⟨(kk : Int), by rw [add_def, cell_blk hb1w]; rfl, ?_⟩
    rw [wrap_in (n := (kk : Int) * 32) (by omega) (by omega), wrap_in (n := (kk : Int) * 32 + (k : Int)) (by omega) (by omega), hsl]
    refine Br.of (fun hin => ?_) (fun hout => ?_)
    · have hin' : kk * 32 + k < f.length := by have := dtrue hin; omega
      refine ⟨by omega, by omega, _, by rw [add_def, add_def, cell_blk hpg]; simpa using Page.get_kn _ hlt', ?_⟩
      rw [fetchP_kn]
      refine Br.of (fun hkn => ?_) (fun hkn => ?_)
      · have hkn : (pageOf σ u (name, (kk : Int))).kn k = false := by simpa using hkn
        refine dwE_intro fun w7 hp7 hh7 => ?_
        obtain ⟨x, hx⟩ : ∃ x, f[kk * 32 + k]? = some x := ⟨_, List.getElem?_eq_getElem hin'⟩
        obtain ⟨a, ha, hca, hba⟩ := hrw.cell (j := kk * 32 + k) (v := u8V x) (by rw [List.getElem?_map, hx]; rfl)
        have hba' := hbo _ hba
        refine ⟨fun v => v.heap[w.heap.size]? = some (.cells #[.string name, .int .i64 (kk : Int)] 92) ∧ v.cell? (a.add (kk * 32 + k)) = some (u8V x), ⟨hp7.blk hb1w, hp7.cell hca⟩, ?_⟩
        refine ⟨(kk : Int), fun v hv => by rw [add_def, cell_blk hv.1]; rfl, a, ha, ?_⟩
        rw [wrap_in (n := (kk : Int) * 32) (by omega) (by omega), wrap_in (n := (kk : Int) * 32 + (k : Int)) (by omega) (by omega)]
        refine ⟨by omega, by omega, _, fun v hv => by rw [show ((kk : Int) * 32 + (k : Int)).toNat * 1 = kk * 32 + k by omega]; exact hv.2, by omega, by omega, ?_⟩
        rw [add_def, add_def, ptrE_some]
        refine st1_intro (hp7.blk hpg) (by rw [Page.size_cells]; omega) fun w8 hw8 hb8 => ?_
        have hf8 : Fr (· = w3.heap.size) w7 w8 := by rw [hw8]; exact Fr.cell w7 _ _ _
        refine ⟨⟨hf8.blk (hp7.blk hb1w) (by omega), ?_⟩, by omega, by omega, ?_⟩
        · have : (a.add (kk * 32 + k)).block = a.block := by unfold Addr.add; split <;> rfl
          rw [World.cell?_of_block (hf8.block _ (by rw [this]; exact Nat.lt_of_lt_of_le hba' (by rw [hh7, hsz, hs6]; omega)) (by rw [this]; omega))]
          exact hp7.cell hca
        rw [add_def]
        refine st1_intro hb8 (by simp [Page.size_cells]; omega) fun w9 hw9 hb9 => ?_
        have hf9 : Fr (· = w3.heap.size) w8 w9 := by rw [hw9]; exact Fr.cell w8 _ _ _
        rw [wrap_in (by omega) (by omega)]
        refine hJ _ _ hlt' ⟨by omega, ((hfr.trans (Fr.pu hp7 : Fr (· = w3.heap.size) w' w7) fun i hi _ => hi).trans hf8 fun i hi _ => hi).trans hf9 fun i hi _ => hi, by rw [hw9, hw8]; simp; rw [hh7, hsz], ?_⟩
        rw [hb9]
        have e1 : 0 + 32 + (k : Int).toNat * 1 = 32 + k := by omega
        have e2 : 0 + (k : Int).toNat * 1 = k := by omega
        rw [e1, e2, Page.set_kn _ hlt']
        have := Page.set_b ({ (fetchP f kk k (pageOf σ u (name, (kk : Int)))) with kn := upN (fetchP f kk k (pageOf σ u (name, (kk : Int)))).kn k true } : Page) hlt' x
        rw [show Value.int .u8 ((x.toNat : Nat) : Int) = u8V x from rfl, this, ← fetchP_step f kk k _ hx hkn]
      · have hkn : (pageOf σ u (name, (kk : Int))).kn k = true := by simpa using hkn
        rw [wrap_in (by omega) (by omega)]
        exact hJ _ _ hlt' ⟨by omega, hfr, hsz, by rw [hpg, fetchP_skip _ _ _ _ (.inl hkn)]⟩
    · exact finish k (by omega) (fetchP_end _ _ _ _ (by have := dfalse hout; omega) (by omega))
  · have : k = 32 := by have := dfalse hge; omega
    subst this
    exact finish 32 (by omega) rfl
end Go.Proofs.YtnigfiljenfgjaaGreat
