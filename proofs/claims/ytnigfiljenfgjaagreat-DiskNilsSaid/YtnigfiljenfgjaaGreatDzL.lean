/- The disk: shortening a cache; the length of a file. -/
import Derived.Test.YtnigfiljenfgjaaGreatDzK
set_option maxRecDepth 100000
set_option linter.unusedVariables false
set_option linter.unusedSimpArgs false
set_option linter.unusedSectionVars false
namespace Go.Proofs.YtnigfiljenfgjaaGreat
open Go.Sh Go.RowKit

def shortPg (a m : Nat) (pg : Page) : Page where
  b := fun j => if a ≤ j ∧ j < m then 0 else pg.b j
  kn := fun j => if a ≤ j ∧ j < m then false else pg.kn j
  di := fun j => if a ≤ j ∧ j < m then false else pg.di j
theorem shortPg_zero (a : Nat) (pg : Page) : shortPg a a pg = pg := Page.ext' (fun j => by simp [shortPg]; omega) (fun j => by simp [shortPg]; omega) (fun j => by simp [shortPg]; omega)
theorem shortPg_step (a m : Nat) (pg : Page) (h : a ≤ m) : ({ b := upN (shortPg a m pg).b m 0, kn := upN (shortPg a m pg).kn m false, di := upN (shortPg a m pg).di m false } : Page) = shortPg a (m + 1) pg := by
  refine Page.ext' (fun j => ?_) (fun j => ?_) (fun j => ?_) <;> simp only [upN, shortPg]
  all_goals
    by_cases e : j = m
    · subst e; simp [h]
    · have : j < m + 1 ↔ j < m := by omega
      simp [e, this]
/-- What becomes of a page of a cache when a file's length is set. -/
def shortA (n : Nat) (name : ByteArray) (q : Place × Page) : Option (Place × Page) :=
  if q.1.1 ≠ name ∨ (q.1.2 + 1) * 32 ≤ n then some q else if q.1.2 * 32 ≥ n then none else some (q.1, shortPg (n - q.1.2.toNat * 32) 32 q.2)
def shortS (σ : Sys) (u : Nat) (name : ByteArray) (n : Nat) : Sys := σ.setCache u ((σ.caches u).filterMap (shortA n name))
theorem shortA_key {n : Nat} {name : ByteArray} {q r : Place × Page} (h : shortA n name q = some r) : r.1 = q.1 := by
  unfold shortA at h
  split at h
  · cases h; rfl
  · split at h
    · cases h
    · cases h; rfl
theorem setCache_twice (σ : Sys) (u : Nat) (a b : List (Place × Page)) : (σ.setCache u a).setCache u b = σ.setCache u b := by
  simp only [Sys.setCache, Sys.mk.injEq, true_and, and_true]
  funext v; split <;> rfl
theorem setCache_self (σ : Sys) (u : Nat) : σ.setCache u (σ.caches u) = σ := by
  simp only [Sys.setCache]
  cases σ
  simp only [Sys.mk.injEq, true_and, and_true]
  funext v; split
  · rename_i e; rw [e]
  · rfl
theorem setCache_at (σ : Sys) (u : Nat) (a : List (Place × Page)) : (σ.setCache u a).caches u = a := by simp [Sys.setCache]

section
variable {κ ν : Type} [DecidableEq κ]
theorem fm_same {l : List (κ × ν)} {F F' : κ × ν → Option (κ × ν)} (h : ∀ q ∈ l, F q = F' q) : l.filterMap F = l.filterMap F' := by
  induction l with
  | nil => rfl
  | cons q l ih => simp only [List.filterMap_cons, h q (by simp), ih fun x hx => h x (by simp [hx])]
theorem fm_put {l : List (κ × ν)} (hn : (l.map Prod.fst).Nodup) {F F' : κ × ν → Option (κ × ν)} {k : κ} {a v : ν} (hm : (k, a) ∈ l) (h1 : F (k, a) = some (k, a)) (h2 : F' (k, a) = some (k, v)) (h3 : ∀ q ∈ l, q.1 ≠ k → F q = F' q)
    (hk : ∀ q r, F q = some r → r.1 = q.1) : AL.put (l.filterMap F) k v = l.filterMap F' := by
  induction l with
  | nil => cases hm
  | cons q l ih =>
    simp only [List.map_cons, List.nodup_cons] at hn
    by_cases e : q.1 = k
    · have hq : q = (k, a) := by
        rcases List.mem_cons.1 hm with h | h
        · exact h.symm
        · exact absurd (List.mem_map.2 ⟨_, h, rfl⟩) (by rw [e] at hn; exact hn.1)
      subst hq
      simp only [List.filterMap_cons, h1, h2, AL.put, if_true]
      congr 1
      exact fm_same fun x hx => h3 x (by simp [hx]) fun e' => hn.1 (List.mem_map.2 ⟨x, hx, e'⟩)
    · have hm' : (k, a) ∈ l := by
        rcases List.mem_cons.1 hm with h | h
        · exact absurd (by rw [← h]) e
        · exact h
      have hq := h3 q (by simp) e
      simp only [List.filterMap_cons, ← hq]
      have ih := ih hn.2 hm' fun x hx => h3 x (by simp [hx])
      cases hF : F q with
      | none => exact ih
      | some r =>
        have := hk q r hF
        obtain ⟨r1, r2⟩ := r
        simp only at this
        simp only [AL.put, this, if_neg e, ih]
theorem fm_del {l : List (κ × ν)} (hn : (l.map Prod.fst).Nodup) {F F' : κ × ν → Option (κ × ν)} {k : κ} {a : ν} (hm : (k, a) ∈ l) (h1 : F (k, a) = some (k, a)) (h2 : F' (k, a) = none) (h3 : ∀ q ∈ l, q.1 ≠ k → F q = F' q)
    (hk : ∀ q r, F q = some r → r.1 = q.1) : AL.del (l.filterMap F) k = l.filterMap F' := by
  induction l with
  | nil => cases hm
  | cons q l ih =>
    simp only [List.map_cons, List.nodup_cons] at hn
    by_cases e : q.1 = k
    · have hq : q = (k, a) := by
        rcases List.mem_cons.1 hm with h | h
        · exact h.symm
        · exact absurd (List.mem_map.2 ⟨_, h, rfl⟩) (by rw [e] at hn; exact hn.1)
      subst hq
      simp only [List.filterMap_cons, h1, h2, AL.del, if_true]
      exact fm_same fun x hx => h3 x (by simp [hx]) fun e' => hn.1 (List.mem_map.2 ⟨x, hx, e'⟩)
    · have hm' : (k, a) ∈ l := by
        rcases List.mem_cons.1 hm with h | h
        · exact absurd (by rw [← h]) e
        · exact h
      have hq := h3 q (by simp) e
      simp only [List.filterMap_cons, ← hq]
      have ih := ih hn.2 hm' fun x hx => h3 x (by simp [hx])
      cases hF : F q with
      | none => exact ih
      | some r =>
        have := hk q r hF
        obtain ⟨r1, r2⟩ := r
        simp only at this
        simp only [AL.del, this, if_neg e, ih]
theorem AL.not_mem_del {l : List (κ × ν)} (h : (l.map Prod.fst).Nodup) (k : κ) : k ∉ (AL.del l k).map Prod.fst := AL.get_none.1 (by rw [AL.get_del h]; simp)
theorem AL.del_put (l : List (κ × ν)) (k : κ) (v : ν) (h : k ∈ l.map Prod.fst) : AL.del (AL.put l k v) k = AL.del l k := by
  induction l with
  | nil => cases h
  | cons q l ih =>
    obtain ⟨a, b⟩ := q
    by_cases e : a = k
    · simp [AL.put, AL.del, e]
    · simp only [List.map_cons, List.mem_cons] at h
      simp [AL.put, AL.del, e, ih (h.resolve_left fun h => e h.symm)]
theorem AL.mem_keys_del' {l : List (κ × ν)} (h : (l.map Prod.fst).Nodup) {k x : κ} (hx : x ≠ k) : x ∈ (AL.del l k).map Prod.fst ↔ x ∈ l.map Prod.fst := by
  have h1 := AL.get_del h k x
  rw [if_neg (Ne.symm hx)] at h1
  have a := @AL.get_none κ ν _ (AL.del l k) x
  have b := @AL.get_none κ ν _ l x
  rw [h1] at a
  constructor
  · intro hm; exact Classical.byContradiction fun hn => (a.1 (b.2 hn)) hm
  · intro hm; exact Classical.byContradiction fun hn => (b.1 (a.2 hn)) hm
end

theorem shorten_c {w : World} {d : Lay} {mu : Int} {σ : Sys} (h : SysAt w d mu σ) (hne : Near σ) {u : Nat} (hu : u < 4) (name : ByteArray) {n : Nat} (hn : n ≤ 1000000) :
    Calls Tryz.prog 67 #[d.ptr, .int .i64 (u : Int), .string name, .int .i64 (n : Int)] w fun e w' => e = .returned (.tuple #[]) ∧ SysAt w' d mu (shortS σ u name n) ∧ Fr (· ∈ d.own) w w' := by
  refine F67_calls _ _ name _ w _ ?_
  obtain ⟨w1, hr1, hi1, hp1, hs1⟩ := (h.ca u hu).range (t := 63) u48
  have hnd := (h.ca u hu).nodup
  refine ⟨by omega, by omega, some (d.c u), h.cellC hu, _, w1, hr1, ?_⟩
  refine loopDown (σ.caches u).length (fun m s w' => ∃ (todo cur : List (Place × Page)), todo.length = m ∧ cur = (σ.caches u).filterMap (fun q : Place × Page => if (AL.get todo q.1).isSome then some q else shortA n name q) ∧
    IterAt w' ekP evP w.heap.size (d.c u) cur todo ∧ (∀ q ∈ todo, q ∈ σ.caches u) ∧ SysAt w' d mu (σ.setCache u cur) ∧ Fr (· ∈ d.own) w w' ∧ w.heap.size < w'.heap.size)
    ⟨σ.caches u, σ.caches u, rfl, ?_, hi1, fun q hq => hq, by rw [setCache_self]; exact h.pu hp1, Fr.pu hp1, by omega⟩ ?_
  · rw [show (σ.caches u).filterMap (fun q : Place × Page => if (AL.get (σ.caches u) q.1).isSome then some q else shortA n name q) = (σ.caches u).filterMap some from fm_same fun q hq => by
      obtain ⟨v, hv⟩ := AL.get_isSome (List.mem_map.2 ⟨q, hq, rfl⟩)
      rw [hv]; rfl]
    simp
  rintro m J s w' ⟨todo, cur, hm, hcur, hit, htodo, hS, hfr, hlt⟩ hJ
  rcases hit.next (P := Tryz.prog) 0 with ⟨hnil, hr⟩ | ⟨p, hpm, w2, hr, hf2, hs2, hit2, hen⟩
  · refine .inl ⟨w', hr, rfl, ?_, hfr⟩
    subst hnil
    have : cur = (σ.caches u).filterMap (shortA n name) := by rw [hcur]; exact fm_same fun q _ => by simp [AL.get]
    rw [this] at hS; exact hS
  · refine .inr ⟨_, _, w2, hr, _, _, w2, hen, ?_⟩
    obtain ⟨⟨nm, q⟩, pg⟩ := p
    have hpl := htodo _ hpm
    have hq := hne u hu _ hpl
    simp only at hq
    obtain ⟨kk, rfl⟩ := Int.eq_ofNat_of_zero_le hq.1
    have hlen2 : (AL.del todo (nm, (kk : Int))).length + 1 = todo.length := AL.length_del hpm hit.nodup
    have hnt : (nm, (kk : Int)) ∉ (AL.del todo (nm, (kk : Int))).map Prod.fst := AL.not_mem_del hit.nodup _
    have hin : (nm, (kk : Int)) ∈ todo.map Prod.fst := List.mem_map.2 ⟨_, hpm, rfl⟩
    have htodo' : ∀ x ∈ AL.del todo (nm, (kk : Int)), x ∈ σ.caches u := fun x hx => htodo x ((AL.perm_del hpm hit.nodup).mem_iff.2 (List.mem_cons_of_mem _ hx))
    have hk1 : ∀ (q r : Place × Page), (if (AL.get todo q.1).isSome then some q else shortA n name q) = some r → r.1 = q.1 := fun q r hqr => by
      split at hqr
      · cases hqr; rfl
      · exact shortA_key hqr
    have hoth : ∀ q ∈ σ.caches u, q.1 ≠ (nm, (kk : Int)) → (if (AL.get todo q.1).isSome then some q else shortA n name q) = (if (AL.get (AL.del todo (nm, (kk : Int))) q.1).isSome then some q else shortA n name q) := fun q _ hne => by
      rw [AL.get_del hit.nodup, if_neg (Ne.symm hne)]
    have hF1 : (if (AL.get todo ((nm, (kk : Int)), pg).1).isSome then some ((nm, (kk : Int)), pg) else shortA n name ((nm, (kk : Int)), pg)) = some ((nm, (kk : Int)), pg) := by
      obtain ⟨v, hv⟩ := AL.get_isSome hin
      rw [hv]; rfl
    have hF2 : (if (AL.get (AL.del todo (nm, (kk : Int))) ((nm, (kk : Int)), pg).1).isSome then some ((nm, (kk : Int)), pg) else shortA n name ((nm, (kk : Int)), pg)) = shortA n name ((nm, (kk : Int)), pg) := by
      rw [AL.get_none.2 hnt]; rfl
    have hcm : (nm, (kk : Int)) ∈ cur.map Prod.fst := by
      rw [hcur]
      exact List.mem_map.2 ⟨((nm, (kk : Int)), pg), List.mem_filterMap.2 ⟨_, hpl, hF1⟩, rfl⟩
    have hS2 : SysAt w2 d mu (σ.setCache u cur) := hS.fr hf2 fun b hb e => by have := h.lt b hb; omega
    have hfr2 : Fr (· ∈ d.own) w w2 := hfr.trans hf2 fun i hi hlt => by omega
    show dAgg (.agg #[.string nm, .int .i64 (kk : Int)]) _
    simp only [dAgg_mk, dHd_mk, dStr_mk, dInt_mk, dNil_mk]
    show dRow (.agg pg.cells) _
    rw [dRow_mk]
    refine alE_intro fun w3 hw3 => alE_intro fun w4 hw4 => ?_
    have hp3 : Pu w2 w3 := by rw [hw3]; exact Pu.alloc w2 _
    have hp4 : Pu w3 w4 := by rw [hw4]; exact Pu.alloc w3 _
    have hb3 : w3.heap[w2.heap.size]? = some (.cells #[.string ⟨#[]⟩, .int .i64 0] 92) := by rw [hw3]; exact alloc_new w2 _
    have hb4 : w4.heap[w3.heap.size]? = some (.cells (zc Tryz.prog 89) 89) := by rw [hw4]; exact alloc_new w3 _
    have hs3 : w3.heap.size = w2.heap.size + 1 := by rw [hw3]; simp
    have hs4 : w4.heap.size = w2.heap.size + 2 := by rw [hw4]; simp [hs3]
    refine stA_fill (hp4.blk hb3) (by rw [size66]; rfl) rfl rfl fun w5 hb5 hf5 hs5 => ?_
    refine stA_fill (hf5.blk hb4 (by omega)) (by rw [Page.size_cells, size61]) (by rw [zero61, Page.size_cells, Page.size_cells]) (Page.one _) fun w6 hb6 hf6 hs6 => ?_
    have hP6 : Pu w2 w6 := ((hp3.trans hp4).andNew hf5 fun i hi => by omega).andNew hf6 fun i hi => by omega
    have hb56 : w6.heap[w2.heap.size]? = some (.cells #[.string nm, .int .i64 (kk : Int)] 92) := hf6.blk hb5 (by omega)
    have hit6 : IterAt w6 ekP evP w.heap.size (d.c u) cur (AL.del todo (nm, (kk : Int))) := hit2.fr (Fr.pu hP6 : Fr (fun _ => False) w2 w6) (fun h => h) (fun h => h)
    have hS6 := hS2.pu hP6
    have hfr6 : Fr (· ∈ d.own) w w6 := hfr2.trans (Fr.pu hP6 : Fr (· ∈ d.own) w2 w6) fun i hi _ => hi
    have skip : shortA n name ((nm, (kk : Int)), pg) = some ((nm, (kk : Int)), pg) → J () w6 := fun hsk => by
      refine hJ (m - 1) _ _ (by omega) ⟨AL.del todo (nm, (kk : Int)), cur, by omega, ?_, hit6, htodo', hS6, hfr6, by omega⟩
      rw [hcur]
      refine fm_same fun q hq => ?_
      by_cases e : q.1 = (nm, (kk : Int))
      · have : q = ((nm, (kk : Int)), pg) := by
          have h1 := AL.get_of_mem hnd hpl
          have h2 : AL.get (σ.caches u) q.1 = some q.2 := AL.get_of_mem hnd hq
          rw [e, h1] at h2
          cases q; simp only [Option.some.injEq] at h2; simp only at e; rw [e, h2]
        rw [this, hF1, hF2, hsk]
      · exact hoth q hq e
    refine ⟨nm, by rw [cell_blk hb56]; rfl, ?_⟩
    rw [toList_beq]
    refine Br.of (fun c1 => skip ?_) (fun c1 => ?_)
    · have c1 : ¬ nm = name := by simpa using c1
      simp [shortA, c1]
    have c1 : nm = name := by simpa using c1
    refine ⟨(kk : Int), by rw [add_def, cell_blk hb56]; rfl, ?_⟩
    rw [wrap_in (n := (kk : Int) + 1) (by omega) (by omega), wrap_in (n := ((kk : Int) + 1) * 32) (by omega) (by omega)]
    refine Br.of (fun c2 => skip ?_) (fun c2 => ?_)
    · have c2 := dtrue c2
      simp [shortA, c2]
    have c2 := dfalse c2
    refine ⟨(kk : Int), by rw [add_def, cell_blk hb56]; rfl, ?_⟩
    rw [wrap_in (n := (kk : Int) * 32) (by omega) (by omega), wrap_in (n := (n : Int) - (kk : Int) * 32) (by omega) (by omega)]
    refine ⟨_, w6, max_run _ _ _ _ _ _, ?_⟩
    rw [show max 0 ((n : Int) - (kk : Int) * 32) = ((n - kk * 32 : Nat) : Int) by omega]
    generalize ha : n - kk * 32 = a
    have ha32 : a ≤ 32 := by omega
    -- the page's bytes are cleared
    refine loopUp (32 - a) (fun j t w7 => t = ((a + j : Nat) : Int) ∧ w7.heap[w3.heap.size]? = some (.cells (shortPg a (a + j) pg).cells 89) ∧ Fr (· = w3.heap.size) w6 w7) ⟨rfl, by rw [Nat.add_zero, shortPg_zero]; exact hb6, Fr.refl _ _⟩ ?_
    rintro j J2 t w7 hj ⟨rfl, hb7, hf7⟩ hJ2
    refine Br.of (fun hlt7 => ?_) (fun hge7 => ?_)
    · have hlt7' : a + j < 32 := by have := dtrue hlt7; omega
      refine ⟨by omega, by omega, ?_⟩
      rw [add_def, add_def]
      refine st1_intro hb7 (by rw [Page.size_cells]; omega) fun w8 hw8 hb8 => ?_
      refine ⟨by omega, by omega, ?_⟩
      rw [add_def, add_def]
      refine st1_intro hb8 (by simp [Page.size_cells]; omega) fun w9 hw9 hb9 => ?_
      refine ⟨by omega, by omega, ?_⟩
      rw [add_def]
      refine st1_intro hb9 (by simp [Page.size_cells]; omega) fun w10 hw10 hb10 => ?_
      have hf8 : Fr (· = w3.heap.size) w7 w8 := by rw [hw8]; exact Fr.cell w7 _ _ _
      have hf9 : Fr (· = w3.heap.size) w8 w9 := by rw [hw9]; exact Fr.cell w8 _ _ _
      have hf10 : Fr (· = w3.heap.size) w9 w10 := by rw [hw10]; exact Fr.cell w9 _ _ _
      rw [wrap_in (by omega) (by omega)]
      refine hJ2 _ _ (by omega) ⟨by omega, ?_, ((hf7.trans hf8 fun i hi _ => hi).trans hf9 fun i hi _ => hi).trans hf10 fun i hi _ => hi⟩
      have e1 : 0 + ((a + j : Nat) : Int).toNat * 1 = a + j := by omega
      have e2 : 0 + 32 + ((a + j : Nat) : Int).toNat * 1 = 32 + (a + j) := by omega
      have e3 : 0 + 64 + ((a + j : Nat) : Int).toNat * 1 = 64 + (a + j) := by omega
      rw [hb10, e1, e2, e3, Page.set_kn _ hlt7', Page.set_di _ hlt7', show Value.int .u8 0 = u8V 0 from rfl, Page.set_b _ hlt7', ← Nat.add_assoc, ← shortPg_step a (a + j) pg (by omega)]
    · have hj32 : a + j = 32 := by have := dfalse hge7; omega
      rw [hj32] at hb7
      refine dwE_intro fun w8 hp8 hh8 => ?_
      have hF8 : Fr (· = w3.heap.size) w6 w8 := hf7.trans (Fr.pu hp8 : Fr (· = w3.heap.size) w7 w8) fun i hi _ => hi
      have hb58 : w8.heap[w2.heap.size]? = some (.cells #[.string nm, .int .i64 (kk : Int)] 92) := hF8.blk hb56 (by omega)
      have hb8 := hp8.blk hb7
      have hown8 : ∀ b ∈ d.own, ¬ b = w3.heap.size := fun b hb => by have := h.lt b hb; omega
      have hS8 : SysAt w8 d mu (σ.setCache u cur) := hS6.fr hF8 hown8
      have hit8 : IterAt w8 ekP evP w.heap.size (d.c u) cur (AL.del todo (nm, (kk : Int))) := hit6.fr hF8 (by omega) (hown8 _ (d.mem_c hu))
      obtain ⟨w9, hr9, hit9, hf9, hs9⟩ := hit8.upd keysP u48 hnt hcm (shortPg a 32 pg)
      have hS9 := hS8.setCache hu hit9.map hf9
      rw [setCache_twice] at hS9
      have hnc : w2.heap.size ≠ d.c u := fun e => by have := h.lt _ (d.mem_c hu); omega
      have hb59 := hf9.blk hb58 hnc
      have hfr9 : Fr (· ∈ d.own) w w9 := (hfr6.trans hF8 fun i hi hlt => by omega).trans hf9 fun i hi _ => by rw [show i = d.c u from hi]; exact d.mem_c hu
      refine ⟨by omega, by omega, some (d.c u), hS8.cellC hu, nm, by rw [add_def, cell_blk hb58]; rfl, (kk : Int), by rw [add_def, cell_blk hb58]; rfl, _, Page.size_cells _, cells_at hb8 96, w9, hr9, (kk : Int), by rw [add_def, cell_blk hb59]; rfl, ?_⟩
      rw [wrap_in (n := (kk : Int) * 32) (by omega) (by omega)]
      refine Br.of (fun c3 => ?_) (fun c3 => ?_)
      · have c3 := dtrue c3
        have hA : shortA n name ((nm, (kk : Int)), pg) = none := by
          have h1 : ¬ (nm ≠ name ∨ ((kk : Int) + 1) * 32 ≤ (n : Int)) := fun h => h.elim (fun h => h c1) c2
          simp only [shortA]
          rw [if_neg h1, if_pos c3]
        refine dwE_intro fun w10 hp10 hh10 => ?_
        have hS10 := hS9.pu hp10
        have hit10 := hit9.fr (Fr.pu hp10 : Fr (fun _ => False) w9 w10) (fun h => h) (fun h => h)
        obtain ⟨w11, hr11, hit11, hf11, hs11⟩ := hit10.drop (r0 := 0) (tys := #[63, 92]) keysP rfl u48 hnt
        have hS11 := hS10.setCache hu hit11.map hf11
        rw [setCache_twice] at hS11
        have hb510 := hp10.blk hb59
        refine ⟨by omega, by omega, some (d.c u), hS10.cellC hu, nm, by rw [add_def, cell_blk hb510]; rfl, (kk : Int), by rw [add_def, cell_blk hb510]; rfl, w11, hr11, ?_⟩
        have e : AL.del (AL.put cur (nm, (kk : Int)) (shortPg a 32 pg)) (nm, (kk : Int)) = AL.del cur (nm, (kk : Int)) := AL.del_put _ _ _ hcm
        rw [e] at hit11 hS11
        refine hJ (m - 1) _ _ (by omega) ⟨AL.del todo (nm, (kk : Int)), _, by omega, ?_, hit11, htodo', hS11, (hfr9.trans (Fr.pu hp10 : Fr (· ∈ d.own) w9 w10) fun i hi _ => hi).trans hf11 fun i hi _ => by rw [show i = d.c u from hi]; exact d.mem_c hu, ?_⟩
        · rw [hcur]
          exact fm_del hnd hpl hF1 (by rw [hF2, hA]) hoth hk1
        · have := hp10.size; have := hf9.size; have := hF8.size; omega
      · have c3 := dfalse c3
        have hA : shortA n name ((nm, (kk : Int)), pg) = some ((nm, (kk : Int)), shortPg a 32 pg) := by
          have h1 : ¬ (nm ≠ name ∨ ((kk : Int) + 1) * 32 ≤ (n : Int)) := fun h => h.elim (fun h => h c1) c2
          simp only [shortA]
          rw [if_neg h1, if_neg c3, Int.toNat_natCast, ha]
        refine hJ (m - 1) _ _ (by omega) ⟨AL.del todo (nm, (kk : Int)), _, by omega, ?_, hit9, htodo', hS9, hfr9, ?_⟩
        · rw [hcur]
          exact fm_put hnd hpl hF1 (by rw [hF2, hA]) hoth hk1
        · have := hf9.size; have := hF8.size; omega

/-! ### Resize -/
def resizeC (name : ByteArray) (n : Int) (σ : Sys) : Int := if enterC 0 name σ = 0 then (if n < 0 then 1 else if n > 65536 then 1 else 0) else enterC 0 name σ
def sized (f : List UInt8) (n : Nat) : List UInt8 := f.take n ++ List.replicate (n - f.length) 0
def shorts (σ : Sys) (name : ByteArray) (n : Nat) : Nat → Sys
  | 0 => σ
  | u + 1 => shortS (shorts σ name n u) u name n
def resizeS (name : ByteArray) (n : Int) (σ : Sys) : Sys :=
  if resizeC name n σ = 0 then shorts { σ with files := AL.put σ.files name (sized (fileOf σ name) n.toNat) } name n.toNat 4 else σ
theorem shorts_near {σ : Sys} (h : Near σ) (name : ByteArray) (n : Nat) : ∀ u, Near (shorts σ name n u)
  | 0 => h
  | u + 1 => fun v hv q hq => by
    have ih := shorts_near h name n u
    simp only [shorts, shortS, Sys.setCache] at hq
    split at hq
    · rename_i e; subst e
      obtain ⟨q', hq', hA⟩ := List.mem_filterMap.1 hq
      rw [shortA_key hA]; exact ih v hv q' hq'
    · exact ih v hv q hq
theorem resize_c {w : World} {d : Lay} {σ : Sys} (h : SysAt w d 0 σ) (hsm : Small σ) (hne : Near σ) (name : ByteArray) (n : Int) :
    Calls Tryz.prog 24 #[d.ptr, .string name, .int .i64 n] w fun e w' => e = .returned (.int .i64 (resizeC name n σ)) ∧ ∃ d', Left w w' d d' (resizeS name n σ) := by
  refine F24_calls _ _ _ w _ ?_
  refine Calls.mono (enter_c h 0 name) ?_
  rintro e w2 ⟨rfl, h2, hf2⟩
  have hf2' : Fr (· ∈ d.own) w w2 := hf2.mono fun i hi _ => by rw [show i = d.S from hi]; exact mem_S d
  have bad : ∀ m : Int, ∀ w3, resizeC name n σ = m → m ≠ 0 → SysAt w3 d 1 σ → Fr (· ∈ d.own) w w3 → runD Tryz.prog [leaveD d] w3 fun w' => Ending.returned (Value.int .i64 m) = .returned (.int .i64 (resizeC name n σ)) ∧ ∃ d', Left w w' d d' (resizeS name n σ) := fun m w3 hm h0 h3 hf3 =>
    leave_left h3 hf3 fun w' hL _ => ⟨by rw [hm], d, by simp only [resizeS, hm, h0, if_false]; exact hL⟩
  refine ⟨_, _, rfl, Br.of (fun he => ?_) (fun he => ?_)⟩
  · have he : enterC 0 name σ ≠ 0 := by simpa using he
    exact bad _ w2 (by simp [resizeC, he]) he h2 hf2'
  · have he : enterC 0 name σ = 0 := by simpa using he
    obtain ⟨_, _, f, hf⟩ := enterC_zero he
    have hfo : fileOf σ name = f := by simp [fileOf, hf]
    have hfl := hsm name f hf
    refine Br.of (fun c1 => bad 1 w2 (by simp [resizeC, he, dtrue c1]) (by decide) h2 hf2') (fun c1 => Br.of (fun c2 => bad 1 w2 (by have := dtrue c2; have := dfalse c1; simp only [resizeC, he, if_true]; rw [if_neg this]; rw [if_pos (dtrue c2)]) (by decide) h2 hf2') (fun c2 => ?_))
    have c1 := dfalse c1
    have c2 := dfalse c2
    have hC : resizeC name n σ = 0 := by simp only [resizeC, he, if_true]; rw [if_neg c1, if_neg c2]
    obtain ⟨m, rfl⟩ := Int.eq_ofNat_of_zero_le (by omega : 0 ≤ n)
    obtain ⟨w3, hmk, hr3, hp3, hs3⟩ := makeBytes w2 m (by omega)
    have h3 := h2.pu hp3
    obtain ⟨s, hl3, hrs, hgs, hmem, hsl⟩ := look_file h3 hf
    have hlt2 : ∀ b ∈ d.own, b < w2.heap.size := h2.lt
    refine ⟨⟨some ⟨w2.heap.size, 0, none⟩, m, m⟩, w3, hmk, some d.M, h3.cellM, s, w3, hl3, ?_⟩
    obtain ⟨w4, hcp, hr4, hf4, hs4⟩ := row_copy (P := Tryz.prog) (dT := 36) (sT := 36) (ty := 3) u29 (by kernel_rfl) hr3 (by simp) hrs (fun v hv => by obtain ⟨x, _, rfl⟩ := List.mem_map.1 hv; rfl)
    have hnb : ∀ b ∈ d.own, ¬ b ∈ blkOf ⟨some ⟨w2.heap.size, 0, none⟩, m, m⟩ := fun b hb hx => by have := hlt2 b hb; simp [blkOf] at hx; omega
    have h4 := h3.fr hf4 hnb
    refine ⟨_, w4, hcp, some d.M, h4.cellM, ?_⟩
    obtain ⟨w5, hup, hm5, hf5, hs5⟩ := h4.mp.upd keysS u40 name ⟨some ⟨w2.heap.size, 0, none⟩, m, m⟩
    refine ⟨w5, hup, ?_⟩
    have hsz : (f.map u8V).take (min s.len m) ++ ((List.replicate m 0).map u8V).drop (min s.len m) = (sized f m).map u8V := by
      rw [hsl]
      simp only [sized, List.map_append, List.map_take, List.map_replicate, List.drop_replicate]
      by_cases e : f.length ≤ m
      · rw [Nat.min_eq_left e, List.take_of_length_le (by simp), List.take_of_length_le (by simp; exact e)]
      · rw [Nat.min_eq_right (by omega), show m - f.length = 0 by omega]; simp
    have hr4' : RowAt w4 5 1 ⟨some ⟨w2.heap.size, 0, none⟩, m, m⟩ ((sized f m).map u8V) := by rw [← hsz]; exact hr4
    have h5 := h4.setFile (s' := ⟨some ⟨w2.heap.size, 0, none⟩, m, m⟩) (b' := sized f m) hm5 hf5 hr4' (fun b hb hbo => hnb b hbo hb) (by simp [blkOf])
    have hF5 : Fr (· ∈ d.own) w w5 := ((hf2'.trans (Fr.pu hp3 : Fr (· ∈ d.own) w2 w3) fun i hi _ => hi).trans hf4 fun i hi hlt => by have := hf2'.size; simp [blkOf] at hi; omega).trans hf5 fun i hi _ => by rw [show i = d.M from hi]; exact mem_M d
    generalize hd' : ({ d with fs := AL.put d.fs name ⟨some ⟨w2.heap.size, 0, none⟩, m, m⟩ } : Lay) = d' at h5
    have hS' : d'.S = d.S := by rw [← hd']
    have hown' : ∀ b ∈ d'.own, b ∈ d.own ∨ w.heap.size ≤ b := fun b hb => by
      rw [← hd'] at hb
      rcases Lay.own_put b hb with h | h
      · exact .inl h
      · have := hf2'.size; simp [blkOf] at h; exact .inr (by omega)
    have hptr : d.ptr = d'.ptr := by simp [Lay.ptr, hS']
    have hlv : leaveD d = leaveD d' := by simp [leaveD, hptr]
    refine loopUp 4 (fun k t w' => t = (k : Int) ∧ SysAt w' d' 1 (shorts { σ with files := AL.put σ.files name (sized f m) } name m k) ∧ Fr (· ∈ d.own) w w') ⟨rfl, h5, hF5⟩ ?_
    rintro k J t w' hk ⟨rfl, hS, hfr⟩ hJ
    refine Br.of (fun hlt => ?_) (fun hge => ?_)
    · have hlt' : k < 4 := by have := dtrue hlt; omega
      show Calls Tryz.prog 67 #[d.ptr, .int .i64 (k : Int), .string name, .int .i64 (m : Int)] w' _
      rw [hptr]
      refine Calls.mono (shorten_c hS (shorts_near (σ := { σ with files := AL.put σ.files name (sized f m) }) hne name m k) hlt' name (by omega)) ?_
      rintro e w6 ⟨rfl, h6, hf6⟩
      refine ⟨rfl, ?_⟩
      rw [wrap_in (by omega) (by omega)]
      exact hJ _ _ hlt' ⟨by omega, h6, hfr.trans hf6 fun i hi hlt => (hown' i hi).elim id fun h => by omega⟩
    · have hk4 : k = 4 := by have := dfalse hge; omega
      subst hk4
      show runD Tryz.prog [leaveD d] w' _
      rw [hlv]
      refine leave_c hS fun w9 h9 hf9 _ => ⟨by rw [hC], d', ⟨?_, hfr.trans hf9 fun i hi _ => by rw [show i = d'.S from hi, hS']; exact mem_S d, hown', hS'⟩⟩
      simp only [resizeS, hC, if_true, hfo, Int.toNat_natCast]
      exact h9
end Go.Proofs.YtnigfiljenfgjaaGreat
