/- The disk: a station that locks, reads and writes within its lock reads what the last one wrote. -/
import Derived.Test.YtnigfiljenfgjaaDkT
set_option maxRecDepth 100000
set_option linter.unusedVariables false
set_option linter.unusedSimpArgs false
set_option linter.unusedSectionVars false
namespace Go.Proofs.Ytnigfiljenfgjaa
open Go.Sh Go.RowKit

theorem mod4 (n : Int) : ∃ m : Nat, m < 4 ∧ (IntKind.i64.wrap (n.tmod 4 + 4)).tmod 4 = (m : Int) ∧ (IntKind.i64.wrap ((m : Int) + 1)).tmod 4 = (((m + 1) % 4 : Nat) : Int) := by
  have h1 : -4 < n.tmod 4 ∧ n.tmod 4 < 4 := by
    rcases Int.lt_or_le n 0 with h | h
    · have e : n.tmod 4 = -((-n).tmod 4) := by rw [Int.neg_tmod]; omega
      rw [e, Int.tmod_eq_emod_of_nonneg (by omega)]
      omega
    · rw [Int.tmod_eq_emod_of_nonneg h]; omega
  refine ⟨((n.tmod 4 + 4) % 4).toNat, by omega, ?_, ?_⟩
  · rw [wrap_in (by omega) (by omega), Int.tmod_eq_emod_of_nonneg (by omega)]; omega
  · rw [wrap_in (by omega) (by omega), Int.tmod_eq_emod_of_nonneg (by omega)]; omega
theorem mod100 (n : Int) : ∃ m : Nat, m < 100 ∧ (IntKind.i64.wrap (n.tmod 100 + 100)).tmod 100 = (m : Int) := by
  have h1 : -100 < n.tmod 100 ∧ n.tmod 100 < 100 := by
    rcases Int.lt_or_le n 0 with h | h
    · have e : n.tmod 100 = -((-n).tmod 100) := by rw [Int.neg_tmod]; omega
      rw [e, Int.tmod_eq_emod_of_nonneg (by omega)]
      omega
    · rw [Int.tmod_eq_emod_of_nonneg h]; omega
  refine ⟨((n.tmod 100 + 100) % 100).toNat, by omega, ?_⟩
  rw [wrap_in (by omega) (by omega), Int.tmod_eq_emod_of_nonneg (by omega)]; omega

/-- Between two rounds: one page at most in each cache, nothing dirty, no lock. -/
structure Calm (σ : Sys) (at_ : Nat) (f : List UInt8) : Prop where
  good : Good σ
  file : AL.get σ.files nF = some f
  len : f.length = 100
  page : ∀ u, u < 4 → σ.caches u = [] ∨ ∃ pg, σ.caches u = [((nF, ((at_ / 32 : Nat) : Int)), pg)] ∧ ∀ j, j < 32 → pg.di j = false
theorem Calm.sizes {σ : Sys} {at_ : Nat} {f : List UInt8} (h : Calm σ at_ f) : Sizes 1 σ := fun u hu => by
  rcases h.page u hu with h | ⟨pg, h, _⟩ <;> simp [h]
theorem Calm.pageR {σ : Sys} {at_ : Nat} {f : List UInt8} (h : Calm σ at_ f) {u : Nat} (hu : u < 4) : ∀ j, j < 32 → (pageR σ u nF (at_ / 32) at_ 1 f).di j = false := by
  intro j hj
  rcases h.page u hu with hc | ⟨pg, hc, hd⟩
  · simp [Go.Proofs.Ytnigfiljenfgjaa.pageR, hc, AL.get, fetchP, Page.zero]
  · simp [Go.Proofs.Ytnigfiljenfgjaa.pageR, hc, AL.get, wantP, hd j hj]
/-- A page is put. -/
theorem Calm.put {σ : Sys} {at_ : Nat} {f : List UInt8} (h : Calm σ at_ f) {u : Nat} (hu : u < 4) (pg : Page) : (σ.setCache u (AL.put (σ.caches u) (nF, ((at_ / 32 : Nat) : Int)) pg)).caches u = [((nF, ((at_ / 32 : Nat) : Int)), pg)] := by
  rw [setCache_at]
  rcases h.page u hu with hc | ⟨pg', hc, _⟩ <;> simp [hc, AL.put]
theorem Calm.read {σ : Sys} {at_ : Nat} {f : List UInt8} (h : Calm σ at_ f) {u : Nat} (hu : u < 4) (hat : at_ < 100) : Calm (σ.setCache u (AL.put (σ.caches u) (nF, ((at_ / 32 : Nat) : Int)) (Go.Proofs.Ytnigfiljenfgjaa.pageR σ u nF (at_ / 32) at_ 1 f))) at_ f where
  good := (h.good.setPage hu (by omega) h.file (h.good.pgOk hu h.file at_ 1) h.sizes (by omega)).1
  file := h.file
  len := h.len
  page := fun v hv => by
    by_cases e : v = u
    · subst e; exact .inr ⟨_, h.put hu _, h.pageR hu⟩
    · have : (σ.setCache u (AL.put (σ.caches u) (nF, ((at_ / 32 : Nat) : Int)) (Go.Proofs.Ytnigfiljenfgjaa.pageR σ u nF (at_ / 32) at_ 1 f))).caches v = σ.caches v := by simp [Sys.setCache, e]
      rw [this]; exact h.page v hv

theorem in_page {at_ : Nat} : inPages nF (at_ : Int) 1 (nF, ((at_ / 32 : Nat) : Int)) = true := by
  show decide (nF = nF ∧ ((at_ / 32 : Nat) : Int) * 32 < (at_ : Int) + 1 ∧ (at_ : Int) < (((at_ / 32 : Nat) : Int) + 1) * 32) = true
  exact decide_eq_true ⟨rfl, by omega, by omega⟩
theorem one_page {σ : Sys} {u at_ : Nat} {pg : Page} (hc : σ.caches u = [((nF, ((at_ / 32 : Nat) : Int)), pg)]) {ps : List Place} (hp : ps.Perm (((σ.caches u).map Prod.fst).filter (inPages nF (at_ : Int) 1))) : ps = [(nF, ((at_ / 32 : Nat) : Int))] := by
  rw [hc] at hp
  simp only [List.map_cons, List.map_nil, List.filter_cons, in_page, if_true, List.filter_nil] at hp
  exact List.perm_singleton.1 hp
theorem no_page {σ : Sys} {u at_ : Nat} (hc : σ.caches u = []) {ps : List Place} (hp : ps.Perm (((σ.caches u).map Prod.fst).filter (inPages nF (at_ : Int) 1))) : ps = [] := by
  rw [hc] at hp; simpa using hp

/-- The lock is taken. -/
theorem Calm.lock {σ : Sys} {at_ : Nat} {f : List UInt8} (h : Calm σ at_ f) {u : Nat} (hu : u < 4) (hat : at_ < 100) {x : UInt8} (hx : f[at_]? = some x) {ps : List Place} (hp : ps.Perm (((σ.caches u).map Prod.fst).filter (inPages nF (at_ : Int) 1))) :
    Calm (refAll u nF ps (locked (u : Int) nF (at_ : Int) 1 σ)) at_ f ∧ (refAll u nF ps (locked (u : Int) nF (at_ : Int) 1 σ)).locks = σ.locks ++ [⟨(u : Int), nF, (at_ : Int), 1⟩] ∧
      (Go.Proofs.Ytnigfiljenfgjaa.pageR (refAll u nF ps (locked (u : Int) nF (at_ : Int) 1 σ)) u nF (at_ / 32) at_ 1 f).b (at_ % 32) = x := by
  have hG' : Good (locked (u : Int) nF (at_ : Int) 1 σ) := ⟨h.good.small, h.good.near, h.good.cnt, h.good.file⟩
  have hfl := h.len
  have hxd : f.getD at_ 0 = x := by simp [List.getD, hx]
  have hqa : at_ / 32 * 32 + at_ % 32 = at_ := by omega
  rcases h.page u hu with hc | ⟨pg, hc, hd⟩
  · rw [no_page hc hp]
    refine ⟨⟨hG', h.file, h.len, h.page⟩, rfl, ?_⟩
    have hc' : (refAll u nF [] (locked (u : Int) nF (at_ : Int) 1 σ)).caches u = [] := hc
    simp only [Go.Proofs.Ytnigfiljenfgjaa.pageR, hc', AL.get, fetchP]
    rw [if_pos ⟨by omega, by omega, rfl⟩, hqa, hxd]
  · rw [one_page hc hp]
    simp only [refAll, Int.toNat_natCast]
    have hpo : pageOf (locked (u : Int) nF (at_ : Int) 1 σ) u (nF, ((at_ / 32 : Nat) : Int)) = pg := by simp [pageOf, locked, hc, AL.get]
    have hfo : fileOf (locked (u : Int) nF (at_ : Int) 1 σ) nF = f := fileOf_eq h.file
    obtain ⟨hG2, _⟩ := hG'.refresh hu (name := nF) (kk := at_ / 32) (by simp [locked, hc])
    have hcu : (refreshS (locked (u : Int) nF (at_ : Int) 1 σ) u nF (at_ / 32)).caches u = [((nF, ((at_ / 32 : Nat) : Int)), refreshP f (at_ / 32) 32 pg)] := by
      simp only [refreshS, hpo, hfo]
      rw [setCache_at]; simp [locked, hc, AL.put]
    refine ⟨⟨hG2, h.file, h.len, fun v hv => ?_⟩, rfl, ?_⟩
    · by_cases e : v = u
      · subst e; exact .inr ⟨_, hcu, hd⟩
      · have : (refreshS (locked (u : Int) nF (at_ : Int) 1 σ) u nF (at_ / 32)).caches v = σ.caches v := by simp [refreshS, Sys.setCache, e, locked]
        rw [this]; exact h.page v hv
    · have hg : AL.get ((refreshS (locked (u : Int) nF (at_ : Int) 1 σ) u nF (at_ / 32)).caches u) (nF, ((at_ / 32 : Nat) : Int)) = some (refreshP f (at_ / 32) 32 pg) := by rw [hcu]; simp [AL.get]
      simp only [Go.Proofs.Ytnigfiljenfgjaa.pageR, hg, wantP]
      by_cases hk : pg.kn (at_ % 32) = true
      · have hk' : (refreshP f (at_ / 32) 32 pg).kn (at_ % 32) = true := hk
        rw [if_neg (fun h' => by rw [hk'] at h'; exact absurd h'.2.2.2 (by simp))]
        simp only [refreshP]
        rw [if_pos ⟨by omega, hk, hd _ (by omega)⟩, hqa, hxd]
      · have hk' : (refreshP f (at_ / 32) 32 pg).kn (at_ % 32) = false := by
          have : pg.kn (at_ % 32) = false := by simpa using hk
          exact this
        rw [if_pos ⟨by omega, ⟨by omega, by omega⟩, by omega, hk'⟩, hqa, hxd]

/-- A byte is written, and the lock given up. -/
theorem Calm.unlock {σ : Sys} {at_ : Nat} {f : List UInt8} (h : Calm σ at_ f) {u : Nat} (hu : u < 4) (hat : at_ < 100) (x : UInt8) {σ4 : Sys} (h4 : σ4 = σ.setCache u (AL.put (σ.caches u) (nF, ((at_ / 32 : Nat) : Int)) (wpg (Go.Proofs.Ytnigfiljenfgjaa.pageR σ u nF (at_ / 32) at_ 1 f) (at_ % 32) x))) :
    Good σ4 ∧ AL.get σ4.files nF = some f ∧ ∀ ps : List Place, ps.Perm (((σ4.caches u).map Prod.fst).filter (inPages nF (at_ : Int) 1)) → ∀ ls : List Lock, Calm { (wrAll u nF ps (σ4, 0)).1 with locks := ls } at_ (f.set at_ x) := by
  have hfl := h.len
  have hst := stepOk_write [x] (at_ := at_) (n := 1) (len := f.length) (by omega) () (Go.Proofs.Ytnigfiljenfgjaa.pageR σ u nF (at_ / 32) at_ 1 f) (at_ % 32) 0 (at_ / 32) (by omega) (by omega) (by omega) (h.good.pgOk hu h.file at_ 1)
  have hG4 : Good σ4 := by rw [h4]; exact (h.good.setPage hu (by omega) h.file (pg := wpg (Go.Proofs.Ytnigfiljenfgjaa.pageR σ u nF (at_ / 32) at_ 1 f) (at_ % 32) x) hst h.sizes (by omega)).1
  have hf4 : AL.get σ4.files nF = some f := by rw [h4]; exact h.file
  refine ⟨hG4, hf4, fun ps hps ls => ?_⟩
  obtain ⟨pw, hpw⟩ : ∃ pw, pw = wpg (Go.Proofs.Ytnigfiljenfgjaa.pageR σ u nF (at_ / 32) at_ 1 f) (at_ % 32) x := ⟨_, rfl⟩
  have hcu : σ4.caches u = [((nF, ((at_ / 32 : Nat) : Int)), pw)] := by rw [h4, h.put hu, hpw]
  have hdi : ∀ j, j < 32 → (pw.di j = true ↔ j = at_ % 32) := fun j hj => by
    rw [hpw]; simp only [wpg, upN]
    by_cases e : j = at_ % 32
    · simp [e]
    · simp [e, h.pageR hu j hj]
  have hb : pw.b (at_ % 32) = x := by rw [hpw]; simp [wpg, upN]
  rw [one_page hcu hps]
  simp only [wrAll, Int.toNat_natCast]
  have hpo : pageOf σ4 u (nF, ((at_ / 32 : Nat) : Int)) = pw := by simp [pageOf, hcu, AL.get]
  have hG5 := hG4.written hu (name := nF) (kk := at_ / 32) (by rw [hcu]; simp)
  obtain ⟨wF, _⟩ := wrF_one pw (at_ / 32) (at_ % 32) f hdi 32 (by omega)
  rw [if_pos (by omega), hb, show at_ / 32 * 32 + at_ % 32 = at_ by omega] at wF
  refine ⟨⟨hG5.small, hG5.near, hG5.cnt, hG5.file⟩, ?_, by simp [hfl], fun v hv => ?_⟩
  · show AL.get (writtenS σ4 u nF (at_ / 32)).files nF = _
    simp only [writtenS, Sys.setCache, AL.get_put, if_true, hpo, fileOf_eq hf4, wF]
  · show (writtenS σ4 u nF (at_ / 32)).caches v = [] ∨ ∃ pg, (writtenS σ4 u nF (at_ / 32)).caches v = _ ∧ _
    by_cases e : v = u
    · subst e
      refine .inr ⟨clearTo 32 pw, ?_, fun j hj => by simp [clearTo, hj]⟩
      simp only [writtenS, hpo]
      rw [setCache_at, hcu]; simp [AL.put]
    · have : (writtenS σ4 u nF (at_ / 32)).caches v = σ.caches v := by
        simp only [writtenS, Sys.setCache, if_neg e]
        rw [h4]; simp [Sys.setCache, e]
      rw [this]; exact h.page v hv
end Go.Proofs.Ytnigfiljenfgjaa
