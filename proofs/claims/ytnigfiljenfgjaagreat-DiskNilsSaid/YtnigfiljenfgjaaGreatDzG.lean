/- The disk: going through bytes page by page. -/
import Derived.Test.YtnigfiljenfgjaaGreatDzF
set_option maxRecDepth 100000
set_option linter.unusedVariables false
set_option linter.unusedSimpArgs false
namespace Go.Proofs.YtnigfiljenfgjaaGreat
open Go.Sh Go.RowKit

def Sys.setCache (σ : Sys) (u : Nat) (l : List (Place × Page)) : Sys := { σ with caches := fun v => if v = u then l else σ.caches v }
theorem SysAt.setCache {w w' : World} {d : Lay} {mu : Int} {σ : Sys} (h : SysAt w d mu σ) {u : Nat} (hu : u < 4) {l : List (Place × Page)} (hm : MapAt w' ekP evP (d.c u) l) (hf : Fr (· = d.c u) w w') : SysAt w' d mu (σ.setCache u l) := by
  obtain ⟨n1, n2, n3, n4, n5⟩ := h.ne
  refine ⟨hf.blk h.st (n2 u hu).1, h.mp.fr hf (n2 u hu).2, h.fl.fr hf fun p hp k hk => (n5 p hp k hk).2.2 u hu, fun v hv => ?_, h.lk.fr hf fun k hk => (n4 k hk).2.2.1 u hu, h.nd⟩
  simp only [Sys.setCache]
  by_cases e : v = u
  · subst e; simpa using hm
  · simp only [if_neg e]; exact (h.ca v hv).fr hf (n3 v u hv hu e)

section
variable {τ : Type} (step : τ → Page → Nat → Nat → τ × Page)
def innerS (t : τ) (pg : Page) (i k : Nat) : Nat → τ × Page
  | 0 => (t, pg)
  | m + 1 => step (innerS t pg i k m).1 (innerS t pg i k m).2 (i + m) (k + m)
def eachS (u : Nat) (name : ByteArray) (at_ n : Nat) (f : List UInt8) : Nat → Sys → τ → Nat → Sys × τ
  | 0, σ, t, _ => (σ, t)
  | fuel + 1, σ, t, k =>
    if k < n then
      let m := min (32 - (at_ + k) % 32) (n - k)
      let r := innerS step t (pageR σ u name ((at_ + k) / 32) at_ n f) ((at_ + k) % 32) k m
      eachS u name at_ n f fuel (σ.setCache u (AL.put (σ.caches u) (name, (((at_ + k) / 32 : Nat) : Int)) r.2)) r.1 (k + m)
    else (σ, t)
theorem eachS_end {u : Nat} {name : ByteArray} {at_ n : Nat} {f : List UInt8} {fuel : Nat} {σ : Sys} {t : τ} {k : Nat} (hk : ¬ k < n) : eachS step u name at_ n f fuel σ t k = (σ, t) := by
  cases fuel <;> simp [eachS, hk]
end

/-- What a closure does to a page, and to what it holds. -/
structure Does {τ : Type} (fn : FuncId) (first cap : Array Value) (n : Nat) (D : World → τ → Prop) (X Y : Nat → Prop) (step : τ → Page → Nat → Nat → τ × Page) : Prop where
  body : hasBody Tryz.prog fn = true
  call : ∀ (w : World) (t : τ) (pg : Page) (r i k : Nat), D w t → w.heap[r]? = some (.cells pg.cells 89) → ¬ Y r → i < 32 → k < n →
    Calls Tryz.prog fn (first.toList ++ (([.pointer (some ⟨r, 0, none⟩), .int .i64 (i : Int), .int .i64 (k : Int)] : List Value) ++ cap.toList)).toArray w fun e w' => e = .returned (.tuple #[]) ∧ D w' (step t pg i k).1 ∧ w'.heap[r]? = some (.cells (step t pg i k).2.cells 89) ∧ Fr (fun b => b = r ∨ X b) w w'
  stays : ∀ {B : Nat → Prop} {w w' t}, D w t → Fr B w w' → (∀ b, Y b → b < w.heap.size → ¬ B b) → D w' t
  sub : ∀ b, X b → Y b

theorem each_c {τ : Type} {fn : FuncId} {first cap : Array Value} {D : World → τ → Prop} {X Y : Nat → Prop} {step : τ → Page → Nat → Nat → τ × Page} {n : Nat} (cl : Does fn first cap n D X Y step)
    {w : World} {d : Lay} {mu : Int} {σ : Sys} (h : SysAt w d mu σ) {u : Nat} (hu : u < 4) {name : ByteArray} {at_ : Nat} {f : List UInt8} (hf : AL.get σ.files name = some f) (hfl : f.length ≤ 1000000) (hat : at_ + n ≤ f.length)
    {t : τ} (hD : D w t) (hY : ∀ b, Y b → b < w.heap.size) (hYo : ∀ b ∈ d.own, ¬ Y b) :
    Calls Tryz.prog 44 #[d.ptr, .int .i64 (u : Int), .string name, .int .i64 (at_ : Int), .int .i64 (n : Int), .func (.func fn) first cap] w fun e w' =>
      e = .returned (.tuple #[]) ∧ SysAt w' d mu (eachS step u name at_ n f n σ t 0).1 ∧ D w' (eachS step u name at_ n f n σ t 0).2 ∧ Fr (fun b => b ∈ d.own ∨ X b) w w' := by
  refine F44_calls _ _ name _ _ _ w _ ?_
  refine loopDown n (fun m s w1 => ∃ (k fuel : Nat) (σ1 : Sys) (t1 : τ), s = (k : Int) ∧ k ≤ n ∧ m = n - k ∧ n ≤ k + fuel ∧ eachS step u name at_ n f fuel σ1 t1 k = eachS step u name at_ n f n σ t 0 ∧ AL.get σ1.files name = some f ∧
    SysAt w1 d mu σ1 ∧ D w1 t1 ∧ Fr (fun b => b ∈ d.own ∨ X b) w w1) ⟨0, n, σ, t, rfl, Nat.zero_le _, by omega, by omega, rfl, hf, h, hD, Fr.refl _ _⟩ ?_
  rintro m J s w1 ⟨k, fuel, σ1, t1, rfl, hk, rfl, hfu, heq, hf1, h1, hD1, hfr1⟩ hJ
  refine Br.of (fun hlt => ?_) (fun hge => ?_)
  · have hlt : k < n := by have := dtrue hlt; omega
    obtain ⟨fuel, rfl⟩ : ∃ g, fuel = g + 1 := ⟨fuel - 1, by omega⟩
    have hdiv : IntKind.i64.wrap ((IntKind.i64.wrap ((at_ : Int) + (k : Int))).tdiv 32) = (((at_ + k) / 32 : Nat) : Int) := by
      rw [wrap_in (n := (at_ : Int) + (k : Int)) (by omega) (by omega)]
      have : ((at_ : Int) + (k : Int)).tdiv 32 = (((at_ + k) / 32 : Nat) : Int) := by
        rw [Int.tdiv_eq_ediv_of_nonneg (by omega)]; omega
      rw [this]; exact wrap_in (by omega) (by omega)
    have hmod : (IntKind.i64.wrap ((at_ : Int) + (k : Int))).tmod 32 = (((at_ + k) % 32 : Nat) : Int) := by
      rw [wrap_in (n := (at_ : Int) + (k : Int)) (by omega) (by omega), Int.tmod_eq_emod_of_nonneg (by omega)]; omega
    have hq : (at_ + k) / 32 ≤ 1000000 := by omega
    generalize hqq : (at_ + k) / 32 = q at hdiv hq
    generalize hii : (at_ + k) % 32 = i0 at hmod
    have hi0 : i0 < 32 := by omega
    refine ⟨rfl, by decide, ?_⟩
    rw [hdiv, hmod]
    refine alE_intro fun w2 hw2 => ?_
    have hp2 : Pu w1 w2 := by rw [hw2]; exact Pu.alloc w1 _
    have hb2 : w2.heap[w1.heap.size]? = some (.cells #[.string ⟨#[]⟩, .int .i64 0] 92) := by rw [hw2]; exact alloc_new w1 _
    refine stA_fill hb2 (by rw [size66]; rfl) rfl rfl fun w3 hb3 hf3 hs3 => ?_
    have hP3 : Pu w1 w3 := hp2.andNew hf3 fun i hi => by omega
    have h3 := h1.pu hP3
    refine ⟨name, by rw [add_def, cell_blk hb3]; rfl, (q : Int), by rw [add_def, cell_blk hb3]; rfl, ?_⟩
    refine Calls.mono (page_c h3 hu hq (by omega) (by omega) hf1 hfl) ?_
    rintro e w4 ⟨rfl, hp4⟩
    refine ⟨_, Page.size_cells _, rfl, ?_⟩
    refine alE_intro fun w5 hw5 => ?_
    have hp5 : Pu w4 w5 := by rw [hw5]; exact Pu.alloc w4 _
    have hb5 : w5.heap[w4.heap.size]? = some (.cells (zc Tryz.prog 89) 89) := by rw [hw5]; exact alloc_new w4 _
    refine stA_fill hb5 (by rw [Page.size_cells, size61]) (by rw [zero61, Page.size_cells, Page.size_cells]) (Page.one _) fun w6 hb6 hf6 hs6 => ?_
    have hs2 : w2.heap.size = w1.heap.size + 1 := by rw [hw2]; simp
    have h14 : w1.heap.size + 1 ≤ w4.heap.size := by have := hp4.size; omega
    have hP6 : Pu w1 w6 := ((hP3.trans hp4).trans hp5).andNew hf6 fun i hi => by omega
    have h6 := h1.pu hP6
    have hb36 : w6.heap[w1.heap.size]? = some (.cells #[.string name, .int .i64 (q : Int)] 92) := hf6.blk (hp5.blk (hp4.blk hb3)) (by omega)
    have hw1 : w.heap.size ≤ w1.heap.size := hfr1.size
    have hD6 : D w6 t1 := cl.stays hD1 (Fr.pu hP6 : Fr (fun _ => False) w1 w6) fun _ _ _ h => h
    have hYr : ¬ Y w4.heap.size := fun hy => by have := hY _ hy; omega
    have hYr1 : ¬ Y w1.heap.size := fun hy => by have := hY _ hy; omega
    refine ⟨rfl, by decide, ?_⟩
    have hm := hJ
    -- the bytes of one page
    refine loopUp (min (32 - i0) (n - k)) (fun m s w7 => s = (((k + m : Nat) : Int), ((i0 + m : Nat) : Int)) ∧ w7.heap[w4.heap.size]? = some (.cells (innerS step t1 (pageR σ1 u name q at_ n f) i0 k m).2.cells 89) ∧
      D w7 (innerS step t1 (pageR σ1 u name q at_ n f) i0 k m).1 ∧ Fr (fun b => b = w4.heap.size ∨ X b) w6 w7) ⟨rfl, hb6, hD6, Fr.refl _ _⟩ ?_
    rintro m J2 s w7 hm ⟨rfl, hb7, hD7, hf7⟩ hJ2
    have h7 : SysAt w7 d mu σ1 := h6.fr hf7 fun b hb hx => by
      rcases hx with hx | hx
      · have := h1.lt b hb; omega
      · exact hYo b hb (cl.sub b hx)
    have hb37 : w7.heap[w1.heap.size]? = some (.cells #[.string name, .int .i64 (q : Int)] 92) := hf7.blk hb36 fun hx => by
      rcases hx with hx | hx
      · omega
      · exact hYr1 (cl.sub _ hx)
    have finish : ¬ (i0 + m < 32 ∧ k + m < n) → F44_1 (fun e w' => e = .returned (.tuple #[]) ∧ SysAt w' d mu (eachS step u name at_ n f n σ t 0).1 ∧ D w' (eachS step u name at_ n f n σ t 0).2 ∧ Fr (fun b => b ∈ d.own ∨ X b) w w') J
        (some ⟨d.S, 0, none⟩) (u : Int) name (at_ : Int) (n : Int) (.func (.func fn) first cap) ((k + m : Nat) : Int) (some ⟨w1.heap.size, 0, none⟩) (some ⟨w4.heap.size, 0, none⟩) [] w7 := fun hend => by
      have hmm : m = min (32 - i0) (n - k) := by omega
      refine dwE_intro fun w8 hp8 hh8 => ?_
      have h8 := h7.pu hp8
      refine ⟨by omega, by omega, some (d.c u), h8.cellC hu, name, by rw [add_def, cell_blk (hp8.blk hb37)]; rfl, (q : Int), by rw [add_def, cell_blk (hp8.blk hb37)]; rfl, _, Page.size_cells _, cells_at (hp8.blk hb7) 96, ?_⟩
      obtain ⟨w9, hr9, hm9, hf9, hs9⟩ := (h8.ca u hu).upd keysP u48 (name, (q : Int)) (innerS step t1 (pageR σ1 u name q at_ n f) i0 k m).2
      refine ⟨w9, hr9, ?_⟩
      have h9 := h8.setCache hu hm9 hf9
      refine hJ (n - (k + m)) _ _ (by omega) ⟨k + m, fuel, _, (innerS step t1 (pageR σ1 u name q at_ n f) i0 k m).1, rfl, by omega, rfl, by omega, ?_, ?_, h9, ?_, ?_⟩
      · rw [← heq, eachS]
        simp only [hlt, if_true, hqq, hii, ← hmm]
      · exact hf1
      · refine cl.stays (cl.stays hD7 (Fr.pu hp8 : Fr (fun _ => False) w7 w8) fun _ _ _ h => h) hf9 fun b hb _ e => hYo b (by rw [show b = d.c u from e]; exact d.mem_c hu) hb
      · refine (((hfr1.trans (Fr.pu hP6 : Fr (fun b => b ∈ d.own ∨ X b) w1 w6) fun i hi _ => hi).trans hf7 fun i hi hlt => ?_).trans (Fr.pu hp8 : Fr (fun b => b ∈ d.own ∨ X b) w7 w8) fun i hi _ => hi).trans hf9 fun i hi _ => ?_
        · rcases hi with hi | hi
          · omega
          · exact .inr hi
        · exact .inl (by rw [show i = d.c u from hi]; exact d.mem_c hu)
    refine Br.of (fun c1 => Br.of (fun c2 => ?_) (fun c2 => ?_)) (fun c1 => ?_)
    · have c1 : i0 + m < 32 := by have := dtrue c1; omega
      have c2 : k + m < n := by have := dtrue c2; omega
      refine ⟨cl.body, Calls.mono (cl.call w7 _ _ w4.heap.size (i0 + m) (k + m) hD7 hb7 hYr c1 c2) ?_⟩
      rintro e w8 ⟨rfl, hD8, hb8, hf8⟩
      refine ⟨rfl, ?_⟩
      rw [wrap_in (by omega) (by omega), wrap_in (by omega) (by omega)]
      exact hJ2 _ _ (by omega) ⟨by simp only [Prod.mk.injEq]; omega, hb8, hD8, hf7.trans hf8 fun i hi _ => hi⟩
    · exact finish (by have := dfalse c2; omega)
    · exact finish (by have := dfalse c1; omega)
  · have hk : k = n := by have := dfalse hge; omega
    subst hk
    rw [eachS_end step (by omega)] at heq
    refine ⟨rfl, ?_, ?_, hfr1⟩
    · rw [← heq]; exact h1
    · rw [← heq]; exact hD1
end Go.Proofs.YtnigfiljenfgjaaGreat
