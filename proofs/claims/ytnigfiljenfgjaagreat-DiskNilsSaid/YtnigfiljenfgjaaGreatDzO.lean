/- The disk: what stays right of a system; small computations. -/
import Derived.Test.YtnigfiljenfgjaaGreatDzN
import Derived.Laws.BytesString
set_option maxRecDepth 100000
set_option linter.unusedVariables false
set_option linter.unusedSimpArgs false
set_option linter.unusedSectionVars false
namespace Go.Proofs.YtnigfiljenfgjaaGreat
open Go.Sh Go.RowKit

theorem conv_str {w : World} {l : SV} {bs : List UInt8} (h : RowAt w 5 1 l (bs.map u8V)) : ∃ s : ByteArray, (convert 36 9 (.slice l.a l.len l.cap)).run Tryz.prog w = .ok (.string s) w ∧ s.data.toList = bs := by
  have hl := u8V_map_len bs h
  rw [run_convert_bytes_string w 36 9 5 l.a l.len l.cap u29 u5 u9]
  have key : ∀ (xs : List UInt8) (acc : ByteArray), ((xs.map fun x : UInt8 => ((x.toNat : Nat) : Int)).foldl (fun r n => r.push (UInt8.ofNat n.toNat)) acc).data.toList = acc.data.toList ++ xs := by
    intro xs
    induction xs with
    | nil => intro acc; simp
    | cons x xs ih =>
      intro acc
      simp only [List.map_cons, List.foldl_cons, ih]
      have hx : UInt8.ofNat ((x.toNat : Int)).toNat = x := by simp
      rw [hx]
      have : (acc.push x).data.toList = acc.data.toList ++ [x] := by simp [ByteArray.push]
      rw [this]; simp
  cases ha : l.a with
  | none =>
    have hln : l = ⟨none, 0, 0⟩ := by
      obtain ⟨_, h' | ⟨g, _, h', _⟩⟩ := h
      · exact h'
      · rw [ha] at h'; cases h'
    have hbs : bs = [] := List.eq_nil_of_length_eq_zero (by rw [← hl, hln])
    refine ⟨ByteArray.empty, ?_, by rw [hbs]; rfl⟩
    rfl
  | some a =>
    have hload : (loadCells a l.len).run Tryz.prog w = .ok ((bs.map fun x : UInt8 => ((x.toNat : Nat) : Int)).map (Value.int .u8)).toArray w := by
      have := run_loadCells_list (P := Tryz.prog) w a (bs.map u8V) fun j v hv => by
        obtain ⟨a', ha', hc, _⟩ := h.cell hv
        rw [ha] at ha'; cases ha'; exact hc
      rw [List.length_map, ← hl] at this
      rw [this]; simp [u8V, Function.comp_def]
    refine ⟨_, run_bytesToString w a l.len l.cap _ hload, ?_⟩
    rw [key]; rfl

/-! ### One byte's place -/
theorem wrF_one (pg : Page) (kk j0 : Nat) (f : List UInt8) (hd : ∀ j, j < 32 → (pg.di j = true ↔ j = j0)) : ∀ m, m ≤ 32 → wrF pg kk f m = (if j0 < m then f.set (kk * 32 + j0) (pg.b j0) else f) ∧ wrN pg m = if j0 < m then 1 else 0
  | 0, _ => by simp [wrF, wrN]
  | m + 1, hm => by
    obtain ⟨h1, h2⟩ := wrF_one pg kk j0 f hd m (by omega)
    simp only [wrF, wrN, h1, h2]
    by_cases e : m = j0
    · subst e
      have : pg.di m = true := (hd m (by omega)).2 rfl
      simp [this]
    · have : ¬ pg.di m = true := fun h => e ((hd m (by omega)).1 h)
      have e2 : j0 < m + 1 ↔ j0 < m := by omega
      simp [this, e2]

/-! ### Systems that are right -/
def Sizes (N : Nat) (σ : Sys) : Prop := ∀ u, u < 4 → (σ.caches u).length ≤ N
def PgOk (kk : Nat) (len : Nat) (pg : Page) : Prop := ∀ j, j < 32 → (pg.kn j = true ∨ pg.di j = true) → kk * 32 + j < len
theorem PgOk.fetch {kk : Nat} {f : List UInt8} {pg : Page} (h : PgOk kk f.length pg) (m : Nat) : PgOk kk f.length (fetchP f kk m pg) := fun j hj hkd => by
  simp only [fetchP, Bool.or_eq_true, decide_eq_true_eq] at hkd
  rcases hkd with (hk | hk) | hk
  · exact h j hj (.inl hk)
  · exact hk.2
  · exact h j hj (.inr hk)
theorem PgOk.want {kk at_ n : Nat} {f : List UInt8} {pg : Page} (h : PgOk kk f.length pg) (m : Nat) : PgOk kk f.length (wantP at_ n f kk m pg) := fun j hj hkd => by
  simp only [wantP, Bool.or_eq_true, decide_eq_true_eq] at hkd
  rcases hkd with (hk | hk) | hk
  · exact h j hj (.inl hk)
  · exact hk.2.2
  · exact h j hj (.inr hk)
theorem PgOk.zero (kk len : Nat) : PgOk kk len Page.zero := fun j _ h => by simp [Page.zero] at h
theorem Good.pgOk {σ : Sys} (h : Good σ) {u : Nat} (hu : u < 4) {name : ByteArray} {kk : Nat} {f : List UInt8} (hf : AL.get σ.files name = some f) (at_ n : Nat) : PgOk kk f.length (pageR σ u name kk at_ n f) := by
  unfold pageR
  cases hg : AL.get (σ.caches u) (name, (kk : Int)) with
  | none => exact (PgOk.zero kk _).fetch 32
  | some p =>
    obtain ⟨f', hf', hfi⟩ := h.file u hu _ (AL.get_mem hg)
    simp only at hf' hfi
    rw [hf] at hf'; cases hf'
    exact PgOk.want (fun j hj hkd => by have := hfi j hj hkd; simpa using this) 32
/-- A cache's page is set. -/
theorem Good.setPage {σ : Sys} (h : Good σ) {u : Nat} (hu : u < 4) {name : ByteArray} {kk : Nat} (hkk : kk ≤ 1000000) {f : List UInt8} (hf : AL.get σ.files name = some f) {pg : Page} (hp : PgOk kk f.length pg) {N : Nat} (hN : Sizes N σ) (hN1 : N + 1 ≤ 1000000) :
    Good (σ.setCache u (AL.put (σ.caches u) (name, (kk : Int)) pg)) ∧ Sizes (N + 1) (σ.setCache u (AL.put (σ.caches u) (name, (kk : Int)) pg)) := by
  have hlen : (AL.put (σ.caches u) (name, (kk : Int)) pg).length ≤ (σ.caches u).length + 1 := by
    cases hg : AL.get (σ.caches u) (name, (kk : Int)) with
    | none => rw [AL.put_new hg]; simp
    | some p => rw [AL.length_put_old (by rw [hg]; simp)]; omega
  have hS : Sizes (N + 1) (σ.setCache u (AL.put (σ.caches u) (name, (kk : Int)) pg)) := fun v hv => by
    simp only [Sys.setCache]
    split
    · have := hN u hu; omega
    · have := hN v hv; omega
  have hmem : ∀ v, v < 4 → ∀ q ∈ (σ.setCache u (AL.put (σ.caches u) (name, (kk : Int)) pg)).caches v, q = ((name, (kk : Int)), pg) ∨ q ∈ σ.caches v := fun v hv q hq => by
    simp only [Sys.setCache] at hq
    split at hq
    · rename_i e; subst e; exact AL.mem_put hq
    · exact .inr hq
  refine ⟨⟨h.small, fun v hv q hq => ?_, fun v hv => Nat.le_trans (hS v hv) hN1, fun v hv q hq => ?_⟩, hS⟩
  · rcases hmem v hv q hq with rfl | hq
    · exact ⟨by simp, by simp; omega⟩
    · exact h.near v hv q hq
  · rcases hmem v hv q hq with rfl | hq
    · exact ⟨f, hf, fun i hi hkd => by simpa using hp i hi hkd⟩
    · exact h.file v hv q hq

/-- A step that leaves pages right. -/
def StepOk {τ : Type} (step : τ → Page → Nat → Nat → τ × Page) (at_ n len : Nat) : Prop := ∀ t pg i k kk, at_ + k = kk * 32 + i → i < 32 → k < n → PgOk kk len pg → PgOk kk len (step t pg i k).2
theorem stepOk_write (bs : List UInt8) {at_ n len : Nat} (h : at_ + n ≤ len) : StepOk (wstep bs) at_ n len := fun t pg i k kk e hi hk hp j hj hkd => by
  simp only [wstep, upN] at hkd
  by_cases ej : j = i
  · subst ej; omega
  · simp only [ej, if_false] at hkd; exact hp j hj hkd
theorem stepOk_read {at_ n len : Nat} : StepOk rstep at_ n len := fun t pg i k kk e hi hk hp => hp
theorem innerS_ok {τ : Type} {step : τ → Page → Nat → Nat → τ × Page} {at_ n len : Nat} (hs : StepOk step at_ n len) {t : τ} {pg : Page} {i k kk : Nat} (e : at_ + k = kk * 32 + i) (hp : PgOk kk len pg) : ∀ m, i + m ≤ 32 → k + m ≤ n → PgOk kk len (innerS step t pg i k m).2
  | 0, _, _ => hp
  | m + 1, h1, h2 => hs _ _ _ _ kk (by omega) (by omega) (by omega) (innerS_ok hs e hp m (by omega) (by omega))
theorem eachS_good {τ : Type} {step : τ → Page → Nat → Nat → τ × Page} {at_ n : Nat} {f : List UInt8} (hs : StepOk step at_ n f.length) {u : Nat} (hu : u < 4) {name : ByteArray} (hfl : f.length ≤ 1000000) (hat : at_ + n ≤ f.length) :
    ∀ (fuel : Nat) (σ : Sys) (t : τ) (k N : Nat), Good σ → AL.get σ.files name = some f → Sizes N σ → N + (if k < n then (at_ + n - 1) / 32 - (at_ + k) / 32 + 1 else 0) ≤ 1000000 →
      Good (eachS step u name at_ n f fuel σ t k).1 ∧ (eachS step u name at_ n f fuel σ t k).1.files = σ.files ∧ (eachS step u name at_ n f fuel σ t k).1.locks = σ.locks ∧ Sizes (N + (if k < n then (at_ + n - 1) / 32 - (at_ + k) / 32 + 1 else 0)) (eachS step u name at_ n f fuel σ t k).1
  | 0, σ, t, k, N, hG, hf, hN, hb => ⟨hG, rfl, rfl, fun v hv => Nat.le_trans (hN v hv) (Nat.le_add_right _ _)⟩
  | fuel + 1, σ, t, k, N, hG, hf, hN, hb => by
    unfold eachS
    by_cases hk : k < n
    · simp only [hk, if_true] at hb ⊢
      obtain ⟨m, hm⟩ : ∃ m, m = min (32 - (at_ + k) % 32) (n - k) := ⟨_, rfl⟩
      rw [← hm]
      have hp := innerS_ok hs (t := t) (i := (at_ + k) % 32) (k := k) (kk := (at_ + k) / 32) (by omega) (hG.pgOk hu hf at_ n (kk := (at_ + k) / 32)) m (by omega) (by omega)
      obtain ⟨hG', hN'⟩ := hG.setPage hu (by omega) hf hp hN (by omega)
      have := eachS_good hs hu hfl hat fuel _ (innerS step t (pageR σ u name ((at_ + k) / 32) at_ n f) ((at_ + k) % 32) k m).1 (k + m) (N + 1) hG' hf hN' (by split <;> omega)
      refine ⟨this.1, this.2.1, this.2.2.1, fun v hv => Nat.le_trans (this.2.2.2 v hv) (by split <;> omega)⟩
    · simp only [hk, if_false]
      exact ⟨hG, trivial, trivial, fun v hv => Nat.le_trans (hN v hv) (Nat.le_add_right _ _)⟩
end Go.Proofs.YtnigfiljenfgjaaGreat
