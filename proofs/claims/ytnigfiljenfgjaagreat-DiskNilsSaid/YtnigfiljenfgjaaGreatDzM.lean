/- The disk: locks. -/
import Derived.Test.YtnigfiljenfgjaaGreatDzL
set_option maxRecDepth 100000
set_option linter.unusedVariables false
set_option linter.unusedSimpArgs false
set_option linter.unusedSectionVars false
namespace Go.Proofs.YtnigfiljenfgjaaGreat
open Go.Sh Go.RowKit

def Lock.ok (l : Lock) : Prop := 0 ≤ l.at_ ∧ l.at_ ≤ 131072 ∧ 0 ≤ l.n ∧ l.n ≤ 131072
def meetsB (name : ByteArray) (at_ n : Int) (l : Lock) : Bool := decide (l.name = name ∧ l.at_ < at_ + n ∧ at_ < l.at_ + l.n)
def Lock.val (l : Lock) : Value := .agg #[.int .i64 l.u, .string l.name, .int .i64 l.at_, .int .i64 l.n]

theorem meets_c (w : World) (l : Lock) (hl : l.ok) (name : ByteArray) {at_ n : Int} (ha : 0 ≤ at_ ∧ at_ ≤ 131072) (hn : 0 ≤ n ∧ n ≤ 131072) :
    Calls Tryz.prog 72 #[l.val, .string name, .int .i64 at_, .int .i64 n] w fun e w' => e = .returned (.bool (meetsB name at_ n l)) ∧ Pu w w' := by
  obtain ⟨h1, h2, h3, h4⟩ := hl
  refine F72_calls _ _ _ _ _ _ _ w _ ?_
  refine alE_intro fun w1 hw1 => ?_
  have hp1 : Pu w w1 := by rw [hw1]; exact Pu.alloc w _
  have hb1 : w1.heap[w.heap.size]? = some (.cells #[.int .i64 l.u, .string l.name, .int .i64 l.at_, .int .i64 l.n] 95) := by rw [hw1]; exact alloc_new w _
  refine ⟨l.name, by rw [add_def, cell_blk hb1]; rfl, ?_⟩
  rw [toList_beq]
  refine Br.of (fun c1 => ?_) (fun c1 => ⟨by simp [meetsB, dfalse c1], hp1⟩)
  have c1 := dtrue c1
  refine ⟨l.at_, by rw [add_def, cell_blk hb1]; rfl, ?_⟩
  rw [wrap_in (n := at_ + n) (by omega) (by omega)]
  refine Br.of (fun c2 => ?_) (fun c2 => ⟨by have := dfalse c2; rw [meetsB, decide_eq_false fun h => this h.2.1], hp1⟩)
  have c2 := dtrue c2
  refine ⟨l.at_, by rw [add_def, cell_blk hb1]; rfl, l.n, by rw [add_def, cell_blk hb1]; rfl, ?_, hp1⟩
  rw [wrap_in (n := l.at_ + l.n) (by omega) (by omega)]
  simp only [meetsB, c1, c2, true_and]

/-- A closure that tells something of a lock. -/
structure Tells (v : Value) (D : World → Prop) (pred : Lock → Bool) : Prop where
  ex : ∃ fn first cap, v = .func (.func fn) first cap ∧ hasBody Tryz.prog fn = true ∧ ∀ w (l : Lock), D w → l.ok →
    Calls Tryz.prog fn (first.toList ++ (([l.val] : List Value) ++ cap.toList)).toArray w fun e w' => e = .returned (.bool (pred l)) ∧ Pu w w'
  stays : ∀ {w w'}, D w → Pu w w' → D w'

theorem tells_meets {r7 r8 r9 : Nat} {name : ByteArray} {at_ n : Int} (ha : 0 ≤ at_ ∧ at_ ≤ 131072) (hn : 0 ≤ n ∧ n ≤ 131072) :
    Tells (.func (.func 71) #[] #[.pointer (some ⟨r7, 0, none⟩), .pointer (some ⟨r8, 0, none⟩), .pointer (some ⟨r9, 0, none⟩)])
      (fun w => w.heap[r7]? = some (.cells #[.string name] 9) ∧ w.heap[r8]? = some (.cells #[.int .i64 at_] 3) ∧ w.heap[r9]? = some (.cells #[.int .i64 n] 3)) (meetsB name at_ n) where
  stays := fun h hp => ⟨hp.blk h.1, hp.blk h.2.1, hp.blk h.2.2⟩
  ex := by
    refine ⟨71, #[], _, rfl, by kernel_rfl, ?_⟩
    rintro w l ⟨h7, h8, h9⟩ hl
    refine F71_calls _ _ _ _ _ _ _ w _ ?_
    refine alE_intro fun w1 hw1 => ?_
    have hp1 : Pu w w1 := by rw [hw1]; exact Pu.alloc w _
    have hb1 : w1.heap[w.heap.size]? = some (.cells #[.int .i64 l.u, .string l.name, .int .i64 l.at_, .int .i64 l.n] 95) := by rw [hw1]; exact alloc_new w _
    refine ⟨l.u, by rw [add_def, cell_blk hb1]; rfl, l.name, by rw [add_def, cell_blk hb1]; rfl, l.at_, by rw [add_def, cell_blk hb1]; rfl, l.n, by rw [add_def, cell_blk hb1]; rfl,
      name, by rw [cell_blk (hp1.blk h7)]; rfl, at_, by rw [cell_blk (hp1.blk h8)]; rfl, n, by rw [cell_blk (hp1.blk h9)]; rfl, ?_⟩
    refine Calls.mono (meets_c w1 l hl name ha hn) ?_
    rintro e w2 ⟨rfl, hp2⟩
    exact ⟨_, rfl, rfl, hp1.trans hp2⟩
theorem tells_mine {r6 r7 r8 r9 r13 : Nat} {u : Int} {name : ByteArray} {at_ n : Int} (ha : 0 ≤ at_ ∧ at_ ≤ 131072) (hn : 0 ≤ n ∧ n ≤ 131072) :
    Tells (.func (.func 74) #[] #[.pointer (some ⟨r6, 0, none⟩), .pointer (some ⟨r13, 0, none⟩)])
      (fun w => w.heap[r6]? = some (.cells #[.int .i64 u] 3) ∧ w.heap[r13]? = some (.cells #[.func (.func 71) #[] #[.pointer (some ⟨r7, 0, none⟩), .pointer (some ⟨r8, 0, none⟩), .pointer (some ⟨r9, 0, none⟩)]] 96) ∧
        w.heap[r7]? = some (.cells #[.string name] 9) ∧ w.heap[r8]? = some (.cells #[.int .i64 at_] 3) ∧ w.heap[r9]? = some (.cells #[.int .i64 n] 3)) (fun l => decide (l.u = u) && meetsB name at_ n l) where
  stays := fun h hp => ⟨hp.blk h.1, hp.blk h.2.1, hp.blk h.2.2.1, hp.blk h.2.2.2.1, hp.blk h.2.2.2.2⟩
  ex := by
    refine ⟨74, #[], _, rfl, by kernel_rfl, ?_⟩
    rintro w l ⟨h6, h13, h789⟩ hl
    refine F74_calls _ _ _ _ _ _ w _ ?_
    refine alE_intro fun w1 hw1 => ?_
    have hp1 : Pu w w1 := by rw [hw1]; exact Pu.alloc w _
    have hb1 : w1.heap[w.heap.size]? = some (.cells #[.int .i64 l.u, .string l.name, .int .i64 l.at_, .int .i64 l.n] 95) := by rw [hw1]; exact alloc_new w _
    refine ⟨l.u, by rw [cell_blk hb1]; rfl, u, by rw [cell_blk (hp1.blk h6)]; rfl, ?_⟩
    refine Br.of (fun c1 => ?_) (fun c1 => ⟨by have : ¬ l.u = u := by simpa using c1
                                               simp [this], hp1⟩)
    have c1 : l.u = u := by simpa using c1
    obtain ⟨fn, first, cap, hv, hbd, hcl⟩ := (tells_meets (r7 := r7) (r8 := r8) (r9 := r9) (name := name) ha hn).ex
    cases hv
    refine ⟨.func (.func 71) #[] #[.pointer (some ⟨r7, 0, none⟩), .pointer (some ⟨r8, 0, none⟩), .pointer (some ⟨r9, 0, none⟩)], by rw [cell_blk (hp1.blk h13)]; rfl, l.u, by rw [add_def, cell_blk hb1]; rfl, l.name, by rw [add_def, cell_blk hb1]; rfl, l.at_, by rw [add_def, cell_blk hb1]; rfl, l.n, by rw [add_def, cell_blk hb1]; rfl, hbd, ?_⟩
    refine Calls.mono (hcl w1 l ⟨hp1.blk h789.1, hp1.blk h789.2.1, hp1.blk h789.2.2⟩ hl) ?_
    rintro e w2 ⟨rfl, hp2⟩
    exact ⟨_, rfl, by simp [c1], hp1.trans hp2⟩

theorem lock_get (ls : List Lock) : ∀ {j : Nat} {l : Lock}, ls[j]? = some l → ∀ i v, l.cells[i]? = some v → (ls.flatMap Lock.cells)[j * 4 + i]? = some v := by
  induction ls with
  | nil => intro j l h; simp at h
  | cons q ls ih =>
    intro j l h i v hv
    cases j with
    | zero =>
      simp at h; subst h
      simp only [List.flatMap_cons, Nat.zero_mul, Nat.zero_add]
      rw [List.getElem?_append_left (List.getElem?_eq_some_iff.1 hv).1]; exact hv
    | succ j =>
      have h := ih (by simpa using h) i v hv
      simp only [List.flatMap_cons]
      rw [List.getElem?_append_right (by simp [Lock.cells]; omega)]
      rw [show (j + 1) * 4 + i - q.cells.length = j * 4 + i by simp [Lock.cells]; omega]; exact h
theorem locks_len (ls : List Lock) : (ls.flatMap Lock.cells).length = ls.length * 4 := by
  induction ls with
  | nil => rfl
  | cons p ps ih => simp [Lock.cells, ih]; omega

theorem contains_c {w : World} {s : SV} {ls : List Lock} (hr : RowAt w 95 4 s (ls.flatMap Lock.cells)) (hok : ∀ l ∈ ls, l.ok) (hlen : ls.length ≤ 1000000) {v : Value} {D : World → Prop} {pred : Lock → Bool} (cl : Tells v D pred) (hD : D w) :
    Calls Tryz.prog 73 #[.slice s.a s.len s.cap, v] w fun e w' => e = .returned (.bool (ls.any pred)) ∧ Pu w w' := by
  refine F73_calls s v w _ ?_
  have hsl : s.len = ls.length := by have := hr.1; rw [locks_len] at this; omega
  refine Calls.mono (R := fun e w' => ∃ n : Int, e = .returned (.int .i64 n) ∧ decide (n ≥ 0) = ls.any pred ∧ Pu w w') ?_ fun e w' ⟨n, h1, h2, h3⟩ => ⟨n, h1, by rw [← h2], h3⟩
  refine F98_calls s v w _ ?_
  obtain ⟨fn, first, cap, rfl, hbd, hcl⟩ := cl.ex
  refine loopUp ls.length (fun k t w' => t = (k : Int) ∧ Pu w w' ∧ ∀ j l, j < k → ls[j]? = some l → pred l = false) ⟨rfl, Pu.refl w, fun j l hj => by omega⟩ ?_
  rintro k J t w' hk ⟨rfl, hp, hall⟩ hJ
  rw [hsl]
  refine Br.of (fun hlt => ?_) (fun hge => ?_)
  · have hlt' : k < ls.length := by have := dtrue hlt; omega
    obtain ⟨l, hl⟩ : ∃ l, ls[k]? = some l := ⟨_, List.getElem?_eq_getElem hlt'⟩
    have hlm := List.mem_of_getElem? hl
    obtain ⟨g, hga, hgc, hgb⟩ := (hr.pu hp).base (fun e => by have := locks_len ls; rw [e] at this; simp at this; omega)
    have g0 := hgc _ _ (lock_get ls hl 0 _ rfl)
    have g1 := hgc _ _ (lock_get ls hl 1 _ rfl)
    have g2 := hgc _ _ (lock_get ls hl 2 _ rfl)
    have g3 := hgc _ _ (lock_get ls hl 3 _ rfl)
    refine ⟨⟨g, 0, none⟩, hga, by omega, by omega, l.u, ?_, l.name, ?_, l.at_, ?_, l.n, ?_, hbd, ?_⟩
    · rw [add_def, add_def, ← g0]; congr 2; omega
    · rw [add_def, add_def, ← g1]; congr 2; omega
    · rw [add_def, add_def, ← g2]; congr 2; omega
    · rw [add_def, add_def, ← g3]; congr 2; omega
    refine Calls.mono (hcl w' l (cl.stays hD hp) (hok l hlm)) ?_
    rintro e w2 ⟨rfl, hp2⟩
    refine ⟨_, rfl, Br.of (fun hb => ?_) (fun hb => ?_)⟩
    · refine ⟨_, rfl, ?_, hp.trans hp2⟩
      rw [decide_eq_true (by omega)]
      exact (List.any_eq_true.2 ⟨l, hlm, hb⟩).symm
    · rw [wrap_in (by omega) (by omega)]
      refine hJ _ _ hlt' ⟨by omega, hp.trans hp2, fun j l' hj hl' => ?_⟩
      by_cases e : j = k
      · subst e; rw [hl] at hl'; cases hl'; exact hb
      · exact hall j l' (by omega) hl'
  · have hk' : k = ls.length := by have := dfalse hge; omega
    subst hk'
    refine ⟨-1, rfl, ?_, hp⟩
    rw [decide_eq_false (by decide)]
    symm
    rw [List.any_eq_false]
    intro l hl
    obtain ⟨j, hj, e⟩ := List.getElem_of_mem hl
    have := hall j l hj (by rw [List.getElem?_eq_getElem hj, e])
    simp [this]

/-! ### Lock -/
theorem u50' : Tryz.prog.underlying 65 = some (.slice 95) := by kernel_rfl
theorem info70 : (Tryz.prog.info? 95).map (fun i => (i.zero, i.size, i.bytes)) = some (some (.agg #[.int .i64 0, .string ⟨#[]⟩, .int .i64 0, .int .i64 0]), 4, 40) := by kernel_rfl
def refreshP (f : List UInt8) (kk m : Nat) (p : Page) : Page := { p with b := fun j => if j < m ∧ p.kn j = true ∧ p.di j = false then f.getD (kk * 32 + j) 0 else p.b j }
theorem refreshP_zero (f : List UInt8) (kk : Nat) (p : Page) : refreshP f kk 0 p = p := Page.ext' (fun j => by simp [refreshP]) (fun _ => rfl) (fun _ => rfl)
theorem refreshP_step (f : List UInt8) (kk m : Nat) (p : Page) {x : UInt8} (hx : f[kk * 32 + m]? = some x) (hk : p.kn m = true) (hd : p.di m = false) : ({ (refreshP f kk m p) with b := upN (refreshP f kk m p).b m x } : Page) = refreshP f kk (m + 1) p := by
  refine Page.ext' (fun j => ?_) (fun _ => rfl) (fun _ => rfl)
  simp only [upN, refreshP]
  by_cases e : j = m
  · subst e; simp [hk, hd, hx, (List.getElem?_eq_some_iff.1 hx).2, (List.getElem?_eq_some_iff.1 hx).1]
  · have : j < m + 1 ↔ j < m := by omega
    simp [e, this]
theorem refreshP_skip (f : List UInt8) (kk m : Nat) (p : Page) (h : p.kn m = false ∨ p.di m = true) : refreshP f kk m p = refreshP f kk (m + 1) p := by
  refine Page.ext' (fun j => ?_) (fun _ => rfl) (fun _ => rfl)
  simp only [refreshP]
  by_cases e : j = m
  · subst e; rcases h with h | h <;> simp [h]
  · have : j < m + 1 ↔ j < m := by omega
    simp [this]
def refreshS (σ : Sys) (u : Nat) (name : ByteArray) (kk : Nat) : Sys := σ.setCache u (AL.put (σ.caches u) (name, (kk : Int)) (refreshP (fileOf σ name) kk 32 (pageOf σ u (name, (kk : Int)))))
def refAll (u : Nat) (name : ByteArray) : List Place → Sys → Sys
  | [], σ => σ
  | p :: ps, σ => refAll u name ps (refreshS σ u name p.2.toNat)
theorem refAll_snoc (u : Nat) (name : ByteArray) (p : Place) : ∀ (ps : List Place) (σ : Sys), refAll u name (ps ++ [p]) σ = refreshS (refAll u name ps σ) u name p.2.toNat
  | [], σ => rfl
  | q :: ps, σ => by simp only [List.cons_append, refAll]; exact refAll_snoc u name p ps _
theorem Good.refresh {σ : Sys} (h : Good σ) {u : Nat} (hu : u < 4) {name : ByteArray} {kk : Nat} (hk : (name, (kk : Int)) ∈ (σ.caches u).map Prod.fst) : Good (refreshS σ u name kk) ∧ ∀ v, ((refreshS σ u name kk).caches v).map Prod.fst = (σ.caches v).map Prod.fst := by
  obtain ⟨pg, hg⟩ := AL.get_isSome hk
  have hpg : pageOf σ u (name, (kk : Int)) = pg := by simp [pageOf, hg]
  have hmem : ∀ v, v < 4 → ∀ q ∈ (refreshS σ u name kk).caches v, ∃ q' ∈ σ.caches v, q'.1 = q.1 ∧ q.2.kn = q'.2.kn ∧ q.2.di = q'.2.di := by
    intro v hv q hq
    simp only [refreshS, Sys.setCache] at hq
    split at hq
    · rename_i e; subst e
      rcases AL.mem_put hq with h | h
      · exact ⟨((name, (kk : Int)), pg), AL.get_mem hg, by rw [h], by rw [h, hpg]; rfl, by rw [h, hpg]; rfl⟩
      · exact ⟨q, h, rfl, rfl, rfl⟩
    · exact ⟨q, hq, rfl, rfl, rfl⟩
  refine ⟨⟨fun x g hx => h.small x g hx, fun v hv q hq => ?_, fun v hv => ?_, fun v hv q hq => ?_⟩, fun v => ?_⟩
  · obtain ⟨q', hq', he, _⟩ := hmem v hv q hq; rw [← he]; exact h.near v hv _ hq'
  · simp only [refreshS, Sys.setCache]
    split
    · rename_i e; subst e; rw [AL.length_put_old (by rw [hg]; simp)]; exact h.cnt _ hv
    · exact h.cnt v hv
  · obtain ⟨q', hq', he, hk, hd⟩ := hmem v hv q hq
    obtain ⟨g, hg1, hg2⟩ := h.file v hv q' hq'
    refine ⟨g, by rw [← he]; exact hg1, fun i hi' hkd => ?_⟩
    rw [← he]; rw [hk, hd] at hkd; exact hg2 i hi' hkd
  · simp only [refreshS, Sys.setCache]
    split
    · rename_i e; subst e
      obtain ⟨l1, l2, h1, h2⟩ := AL.put_split hg
      rw [h2, h1]; simp
    · rfl
theorem refAll_good {u : Nat} (hu : u < 4) {name : ByteArray} {σ : Sys} (h : Good σ) : ∀ (ps : List Place), (∀ p ∈ ps, p ∈ (σ.caches u).map Prod.fst ∧ p.1 = name) → Good (refAll u name ps σ) ∧ (∀ v, ((refAll u name ps σ).caches v).map Prod.fst = (σ.caches v).map Prod.fst) ∧ (refAll u name ps σ).files = σ.files ∧ (refAll u name ps σ).locks = σ.locks
  | [], _ => ⟨h, fun _ => rfl, rfl, rfl⟩
  | p :: ps, hp => by
    obtain ⟨hk, hnm⟩ := hp p (by simp)
    obtain ⟨nm, q⟩ := p
    have hnm : nm = name := hnm
    subst hnm
    obtain ⟨pg, hg⟩ := AL.get_isSome hk
    have hq := (h.near u hu _ (AL.get_mem hg)).1
    simp only at hq
    obtain ⟨kk, rfl⟩ := Int.eq_ofNat_of_zero_le hq
    obtain ⟨hG, hK⟩ := h.refresh hu hk
    have := refAll_good hu hG ps fun p' hp' => ⟨by rw [hK]; exact (hp p' (by simp [hp'])).1, (hp p' (by simp [hp'])).2⟩
    exact ⟨this.1, fun v => (this.2.1 v).trans (hK v), this.2.2.1, this.2.2.2⟩

theorem SysAt.setLocks {w w' : World} {d : Lay} {mu : Int} {σ : Sys} (h : SysAt w d mu σ) {ls' : SV} {locks' : List Lock} (hr : RowAt w' 95 4 ls' (locks'.flatMap Lock.cells)) (hf : Fr (fun b => b ∈ blkOf d.ls ∨ b = d.S) w w')
    (hS : w'.heap[d.S]? = some (.cells #[.int .i32 mu, .int .u32 0, .map (some d.M), .map (some (d.c 0)), .map (some (d.c 1)), .map (some (d.c 2)), .map (some (d.c 3)), .slice ls'.a ls'.len ls'.cap] 67))
    (hb : ∀ b ∈ blkOf ls', b ∈ blkOf d.ls ∨ b ∉ d.own) : SysAt w' { d with ls := ls' } mu { σ with locks := locks' } := by
  obtain ⟨n1, n2, n3, n4, n5⟩ := h.ne
  refine ⟨hS, h.mp.fr hf ?_, h.fl.fr hf fun p hp k hk => ?_, fun u hu => (h.ca u hu).fr hf ?_, hr, ?_⟩
  · rintro (hx | hx)
    · exact (n4 _ hx).2.1 rfl
    · exact n1 hx.symm
  · rintro (hx | hx)
    · exact (n4 _ hx).2.2.2 p hp hk
    · exact (n5 p hp k hk).1 hx
  · rintro (hx | hx)
    · exact (n4 _ hx).2.2.1 u hu rfl
    · exact (n2 u hu).1 hx.symm
  · have hnd := h.nd
    have hone : (blkOf ls').Nodup := by unfold blkOf; split <;> simp
    have hx : ∀ b ∈ blkOf ls', b ∈ d.S :: d.M :: d.c 0 :: d.c 1 :: d.c 2 :: d.c 3 :: d.fs.flatMap (fun p => blkOf p.2) → False := fun b hb' hx => by
      rcases hb b hb' with h4 | h4
      · have n4b := n4 b h4
        simp only [List.mem_cons, List.mem_flatMap] at hx
        rcases hx with hx | hx | hx | hx | hx | hx | ⟨p, hp, hx⟩
        · exact n4b.1 hx
        · exact n4b.2.1 hx
        · exact n4b.2.2.1 0 (by omega) hx
        · exact n4b.2.2.1 1 (by omega) hx
        · exact n4b.2.2.1 2 (by omega) hx
        · exact n4b.2.2.1 3 (by omega) hx
        · exact n4b.2.2.2 p hp hx
      · refine h4 ?_
        simp only [Lay.own, List.mem_cons, List.mem_append] at hx ⊢
        rcases hx with hx | hx | hx | hx | hx | hx | hx <;> simp [hx]
    have hsub : (d.S :: d.M :: d.c 0 :: d.c 1 :: d.c 2 :: d.c 3 :: d.fs.flatMap (fun p => blkOf p.2)).Nodup := by
      refine List.Nodup.sublist ?_ hnd
      simp only [Lay.own]
      repeat' refine List.Sublist.cons_cons _ ?_
      exact List.sublist_append_right _ _
    have hperm : ({ d with ls := ls' } : Lay).own.Perm (blkOf ls' ++ (d.S :: d.M :: d.c 0 :: d.c 1 :: d.c 2 :: d.c 3 :: d.fs.flatMap (fun p => blkOf p.2))) := by
      simp only [Lay.own]
      rw [show d.S :: d.M :: d.c 0 :: d.c 1 :: d.c 2 :: d.c 3 :: (blkOf ls' ++ d.fs.flatMap (fun p => blkOf p.2)) = [d.S, d.M, d.c 0, d.c 1, d.c 2, d.c 3] ++ (blkOf ls' ++ d.fs.flatMap (fun p => blkOf p.2)) by rfl,
        show blkOf ls' ++ (d.S :: d.M :: d.c 0 :: d.c 1 :: d.c 2 :: d.c 3 :: d.fs.flatMap (fun p => blkOf p.2)) = blkOf ls' ++ ([d.S, d.M, d.c 0, d.c 1, d.c 2, d.c 3] ++ d.fs.flatMap (fun p => blkOf p.2)) by rfl, ← List.append_assoc, ← List.append_assoc]
      exact List.Perm.append_right _ List.perm_append_comm
    exact hperm.nodup_iff.2 (List.nodup_append.2 ⟨hone, hsub, fun a ha b hb' e => hx a ha (by rw [e]; exact hb')⟩)
end Go.Proofs.YtnigfiljenfgjaaGreat
