/- The disk: the pages of a cache; flushing. -/
import Derived.Test.YtnigfiljenfgjaaGreatDzJ
set_option maxRecDepth 100000
set_option linter.unusedVariables false
set_option linter.unusedSimpArgs false
namespace Go.Proofs.YtnigfiljenfgjaaGreat
open Go.Sh Go.RowKit

theorem info66 : (Tryz.prog.info? 92).map (fun i => (i.zero, i.size, i.bytes)) = some (some (.agg #[.string ⟨#[]⟩, .int .i64 0]), 2, 24) := by kernel_rfl
theorem u63 : Tryz.prog.underlying 119 = some (.slice 92) := by kernel_rfl
def placeCells (p : Place) : List Value := [.string p.1, .int .i64 p.2]
def inPages (name : ByteArray) (at_ n : Int) (p : Place) : Bool := decide (p.1 = name ∧ p.2 * 32 < at_ + n ∧ at_ < (p.2 + 1) * 32)
/-- The places of a cache are within bounds. -/
def Near (σ : Sys) : Prop := ∀ u, u < 4 → ∀ q ∈ σ.caches u, 0 ≤ q.1.2 ∧ q.1.2 ≤ 1000000

theorem flat_len (ps : List Place) : (ps.flatMap placeCells).length = ps.length * 2 := by
  induction ps with
  | nil => rfl
  | cons p ps ih => simp [placeCells, ih]; omega

theorem pages_c {w : World} {d : Lay} {mu : Int} {σ : Sys} (h : SysAt w d mu σ) (hne : Near σ) {u : Nat} (hu : u < 4) (name : ByteArray) {at_ n : Int} (hat : 0 ≤ at_ ∧ at_ ≤ 1000000) (hn : 0 ≤ n ∧ n ≤ 1000000) (hlen : (σ.caches u).length ≤ 1000000) :
    Calls Tryz.prog 69 #[d.ptr, .int .i64 (u : Int), .string name, .int .i64 at_, .int .i64 n] w fun e w' => ∃ (l : SV) (ps : List Place), e = .returned (.slice l.a l.len l.cap) ∧ RowAt w' 92 2 l (ps.flatMap placeCells) ∧
      ps.Perm (((σ.caches u).map Prod.fst).filter (inPages name at_ n)) ∧ Pu w w' ∧ ∀ b ∈ blkOf l, w.heap.size ≤ b := by
  refine F69_calls _ _ name _ _ w _ ?_
  obtain ⟨w1, hr1, hi1, hp1, hs1⟩ := (h.ca u hu).range (t := 63) u48
  refine ⟨by omega, by omega, some (d.c u), h.cellC hu, _, w1, hr1, ?_⟩
  refine loopDown (σ.caches u).length (fun m s w' => ∃ (todo : List (Place × Page)) (done : List Place), todo.length = m ∧ done.length + m = (σ.caches u).length ∧ IterAt w' ekP evP w.heap.size (d.c u) (σ.caches u) todo ∧ Pu w w' ∧ w.heap.size < w'.heap.size ∧
    (∀ q ∈ todo, q ∈ σ.caches u) ∧ (done ++ todo.map Prod.fst).Perm ((σ.caches u).map Prod.fst) ∧ RowAt w' 92 2 s ((done.filter (inPages name at_ n)).flatMap placeCells) ∧ (∀ b ∈ blkOf s, w.heap.size < b))
    ⟨σ.caches u, [], rfl, by simp, hi1, hp1, by omega, fun q hq => hq, List.Perm.refl _, RowAt.nil _ _ _, by simp [blkOf]⟩ ?_
  rintro m J s w' ⟨todo, done, hm, hdl, hit, hp, hlt, htodo, hperm, hrow, hblk⟩ hJ
  rcases hit.next (P := Tryz.prog) 0 with ⟨hnil, hr⟩ | ⟨p, hpm, w2, hr, hf2, hs2, hit2, hen⟩
  · refine .inl ⟨w', hr, s, done.filter (inPages name at_ n), rfl, hrow, ?_, hp, fun b hb => Nat.le_of_lt (hblk b hb)⟩
    subst hnil
    simp only [List.map_nil, List.append_nil] at hperm
    exact hperm.filter _
  · refine .inr ⟨_, _, w2, hr, _, _, w2, hen, ?_⟩
    obtain ⟨⟨nm, q⟩, pg⟩ := p
    have hq := hne u hu _ (htodo _ hpm)
    simp only at hq
    have hP2 : Pu w w2 := hp.andNew hf2 fun i hi => by omega
    show dAgg (.agg #[.string nm, .int .i64 q]) _
    simp only [dAgg_mk, dHd_mk, dStr_mk, dInt_mk, dNil_mk]
    refine alE_intro fun w3 hw3 => ?_
    have hp3 : Pu w2 w3 := by rw [hw3]; exact Pu.alloc w2 _
    have hb3 : w3.heap[w2.heap.size]? = some (.cells #[.string ⟨#[]⟩, .int .i64 0] 92) := by rw [hw3]; exact alloc_new w2 _
    refine stA_fill hb3 (by rw [size66]; rfl) rfl rfl fun w4 hb4 hf4 hs4 => ?_
    have hP24 : Pu w2 w4 := hp3.andNew hf4 fun i hi => by omega
    have hs3 : w3.heap.size = w2.heap.size + 1 := by rw [hw3]; simp
    have hit4 : IterAt w4 ekP evP w.heap.size (d.c u) (σ.caches u) (AL.del todo (nm, q)) := hit2.fr (Fr.pu hP24 : Fr (fun _ => False) w2 w4) (fun h => h) (fun h => h)
    have hrow4 : RowAt w4 92 2 s ((done.filter (inPages name at_ n)).flatMap placeCells) := (hrow.fr hf2 fun b hb e => by have := hblk b hb; omega).pu hP24
    have hlen2 : (AL.del todo (nm, q)).length + 1 = todo.length := AL.length_del hpm hit.nodup
    have hperm' : ((done ++ [(nm, q)]) ++ (AL.del todo (nm, q)).map Prod.fst).Perm ((σ.caches u).map Prod.fst) := by
      refine List.Perm.trans ?_ hperm
      simp only [List.append_assoc]
      exact List.Perm.append_left done ((AL.perm_del hpm hit.nodup).map Prod.fst).symm
    have htodo' : ∀ x ∈ AL.del todo (nm, q), x ∈ σ.caches u := fun x hx => htodo x ((AL.perm_del hpm hit.nodup).mem_iff.2 (List.mem_cons_of_mem _ hx))
    have skip : inPages name at_ n (nm, q) = false → J s w4 := fun hsk => by
      refine hJ (m - 1) _ _ (by omega) ⟨AL.del todo (nm, q), done ++ [(nm, q)], by omega, by simp; omega, hit4, hP2.trans hP24, by omega, htodo', hperm', ?_, hblk⟩
      rw [List.filter_append]; simp only [List.filter_cons, hsk]; simpa using hrow4
    refine ⟨nm, by rw [cell_blk hb4]; rfl, ?_⟩
    rw [toList_beq]
    refine Br.of (fun c1 => ?_) (fun c1 => skip (by simp [inPages, dfalse c1]))
    have c1 := dtrue c1
    refine ⟨q, by rw [add_def, cell_blk hb4]; rfl, ?_⟩
    rw [wrap_in (n := q * 32) (by omega) (by omega), wrap_in (n := at_ + n) (by omega) (by omega)]
    refine Br.of (fun c2 => ?_) (fun c2 => skip (by have := dfalse c2; simp only [inPages]; exact decide_eq_false fun hh => this hh.2.1))
    have c2 := dtrue c2
    refine ⟨q, by rw [add_def, cell_blk hb4]; rfl, ?_⟩
    rw [wrap_in (n := q + 1) (by omega) (by omega), wrap_in (n := (q + 1) * 32) (by omega) (by omega)]
    refine Br.of (fun c3 => ?_) (fun c3 => skip (by have := dfalse c3; simp only [inPages]; exact decide_eq_false fun hh => this hh.2.2))
    have c3 := dtrue c3
    have hin : inPages name at_ n (nm, q) = true := by simp only [inPages]; exact decide_eq_true ⟨c1, c2, c3⟩
    refine ⟨nm, by rw [add_def, cell_blk hb4]; rfl, q, by rw [add_def, cell_blk hb4]; rfl, ?_⟩
    refine alE_intro fun w5 hw5 => ?_
    have hp5 : Pu w4 w5 := by rw [hw5]; exact Pu.alloc w4 _
    have hb5 : w5.heap[w4.heap.size]? = some (.cells #[.string nm, .int .i64 q] 92) := by rw [hw5]; exact alloc_new w4 _
    obtain ⟨i, hi, hz, hsz, hby⟩ := info_parts info66
    have hdl2 : (done.filter (inPages name at_ n)).length ≤ done.length := List.length_filter_le _ _
    have hsl : s.len = (done.filter (inPages name at_ n)).length := by have := hrow4.1; rw [flat_len] at this; omega
    obtain ⟨s', w6, hra, hrow', hf6, hblk6, _⟩ := row_append (P := Tryz.prog) (ty := 119) u63 hi hz hsz (by rfl) (by decide) (hrow4.pu hp5) (a := ⟨w4.heap.size, 0, none⟩) (m := 1) (c := 1) (news := placeCells (nm, q)) (by simp [placeCells]) (fun j v hv => by
      rw [add_def, cell_blk hb5, Nat.zero_add]
      simpa [placeCells] using hv) (by simp [placeCells, Value.oneCell']) (by rw [hby]; omega)
    have hs5 : w5.heap.size = w4.heap.size + 1 := by rw [hw5]; simp
    refine ⟨s', w6, hra, hJ (m - 1) _ _ (by omega) ⟨AL.del todo (nm, q), done ++ [(nm, q)], by omega, by simp; omega, ?_, ?_, ?_, htodo', hperm', ?_, fun b hb => ?_⟩⟩
    · exact (hit4.fr (Fr.pu hp5 : Fr (fun _ => False) w4 w5) (fun h => h) (fun h => h)).fr hf6 (fun hb => by have := hblk _ hb; omega) (fun hb => by have := hblk _ hb; have := h.lt _ (d.mem_c hu); omega)
    · exact ((hP2.trans hP24).trans hp5).andNew hf6 fun b hb => Nat.le_of_lt (hblk b hb)
    · have := hf6.size; omega
    · rw [List.filter_append, List.flatMap_append]; simp only [List.filter_cons, hin, if_true]; simpa using hrow'
    · rcases hblk6 b hb with hb | hb
      · exact hblk b hb
      · omega

/-! ### Flush -/
/-- Pages written one behind the other. -/
def wrAll (u : Nat) (name : ByteArray) : List Place → Sys × Nat → Sys × Nat
  | [], s => s
  | p :: ps, s => wrAll u name ps (writtenS s.1 u name p.2.toNat, s.2 + wrN (pageOf s.1 u p) 32)

theorem flat_get (ps : List Place) : ∀ {j : Nat} {p : Place}, ps[j]? = some p → (ps.flatMap placeCells)[j * 2]? = some (.string p.1) ∧ (ps.flatMap placeCells)[j * 2 + 1]? = some (.int .i64 p.2) := by
  induction ps with
  | nil => intro j p h; simp at h
  | cons q ps ih =>
    intro j p h
    cases j with
    | zero => simp at h; subst h; simp [placeCells]
    | succ j =>
      have h := ih (by simpa using h)
      simp only [List.flatMap_cons, placeCells, List.cons_append, List.nil_append]
      rw [show (j + 1) * 2 = j * 2 + 1 + 1 by omega]
      simpa using h
structure Good (σ : Sys) : Prop where
  small : Small σ
  near : Near σ
  cnt : ∀ u, u < 4 → (σ.caches u).length ≤ 1000000
  file : ∀ u, u < 4 → ∀ q ∈ σ.caches u, ∃ f, AL.get σ.files q.1.1 = some f ∧ ∀ i, i < 32 → (q.2.kn i = true ∨ q.2.di i = true) → q.1.2.toNat * 32 + i < f.length
theorem AL.mem_put {κ ν : Type} [DecidableEq κ] {l : List (κ × ν)} {k : κ} {v : ν} {q : κ × ν} (h : q ∈ AL.put l k v) : q = (k, v) ∨ q ∈ l := by
  induction l with
  | nil => simp [AL.put] at h; exact .inl h
  | cons p l ih =>
    obtain ⟨a, b⟩ := p
    simp only [AL.put] at h
    by_cases e : a = k
    · simp only [e, if_true, List.mem_cons] at h
      rcases h with h | h
      · exact .inl h
      · exact .inr (List.mem_cons_of_mem _ h)
    · simp only [e, if_false, List.mem_cons] at h
      rcases h with h | h
      · exact .inr (by rw [h]; simp)
      · rcases ih h with h | h
        · exact .inl h
        · exact .inr (List.mem_cons_of_mem _ h)
theorem AL.get_isSome {κ ν : Type} [DecidableEq κ] {l : List (κ × ν)} {k : κ} (h : k ∈ l.map Prod.fst) : ∃ v, AL.get l k = some v := by
  cases hg : AL.get l k with
  | none => exact absurd h (AL.get_none.1 hg)
  | some v => exact ⟨v, rfl⟩
theorem Good.page {σ : Sys} (h : Good σ) {u : Nat} (hu : u < 4) {name : ByteArray} {kk : Nat} (hk : (name, (kk : Int)) ∈ (σ.caches u).map Prod.fst) :
    kk ≤ 1000000 ∧ ∃ f, AL.get σ.files name = some f ∧ f.length ≤ 1000000 ∧ ∀ i, i < 32 → ((pageOf σ u (name, (kk : Int))).kn i = true ∨ (pageOf σ u (name, (kk : Int))).di i = true) → kk * 32 + i < f.length := by
  obtain ⟨pg, hg⟩ := AL.get_isSome hk
  have hm := AL.get_mem hg
  obtain ⟨f, hf, hfi⟩ := h.file u hu _ hm
  have hn := h.near u hu _ hm
  simp only at hn hf hfi
  refine ⟨by omega, f, hf, h.small _ _ hf, fun i hi hkd => ?_⟩
  simp only [pageOf, hg, Option.getD_some] at hkd
  have := hfi i hi hkd
  simpa using this
theorem Good.written {σ : Sys} (h : Good σ) {u : Nat} (hu : u < 4) {name : ByteArray} {kk : Nat} (hk : (name, (kk : Int)) ∈ (σ.caches u).map Prod.fst) : Good (writtenS σ u name kk) := by
  obtain ⟨h1, f, hf, hfl, hfi⟩ := h.page hu hk
  have hfo : fileOf σ name = f := by simp [fileOf, hf]
  obtain ⟨pg, hg⟩ := AL.get_isSome hk
  have hpg : pageOf σ u (name, (kk : Int)) = pg := by simp [pageOf, hg]
  have hfiles : ∀ x g, AL.get (writtenS σ u name kk).files x = some g → ∃ g', AL.get σ.files x = some g' ∧ g.length = g'.length := by
    intro x g hx
    simp only [writtenS, Sys.setCache, hfo, AL.get_put] at hx
    split at hx
    · rename_i e; subst e; cases hx; exact ⟨f, hf, wrF_len _ _ _ _⟩
    · exact ⟨g, hx, rfl⟩
  have hfiles' : ∀ x g, AL.get σ.files x = some g → ∃ g', AL.get (writtenS σ u name kk).files x = some g' ∧ g'.length = g.length := by
    intro x g hx
    simp only [writtenS, Sys.setCache, hfo, AL.get_put]
    split
    · rename_i e; subst e; rw [hf] at hx; cases hx; exact ⟨_, rfl, wrF_len _ _ _ _⟩
    · exact ⟨g, hx, rfl⟩
  have hmem : ∀ v, v < 4 → ∀ q ∈ (writtenS σ u name kk).caches v, ∃ q' ∈ σ.caches v, q'.1 = q.1 ∧ ∀ i, (q.2.kn i = true ∨ q.2.di i = true) → (q'.2.kn i = true ∨ q'.2.di i = true) := by
    intro v hv q hq
    simp only [writtenS, Sys.setCache] at hq
    split at hq
    · rename_i e; subst e
      rcases AL.mem_put hq with h | h
      · refine ⟨((name, (kk : Int)), pg), AL.get_mem hg, by rw [h], fun i hi => ?_⟩
        rw [h, hpg] at hi
        rcases hi with hi | hi
        · exact .inl hi
        · simp only [clearTo] at hi
          split at hi
          · cases hi
          · exact .inr hi
      · exact ⟨q, h, rfl, fun i hi => hi⟩
    · exact ⟨q, hq, rfl, fun i hi => hi⟩
  refine ⟨fun x g hx => ?_, fun v hv q hq => ?_, fun v hv => ?_, fun v hv q hq => ?_⟩
  · obtain ⟨g', hg', he⟩ := hfiles x g hx; rw [he]; exact h.small _ _ hg'
  · obtain ⟨q', hq', he, _⟩ := hmem v hv q hq; rw [← he]; exact h.near v hv _ hq'
  · simp only [writtenS, Sys.setCache]
    split
    · rename_i e; subst e; rw [AL.length_put_old (by rw [hg]; simp)]; exact h.cnt _ hv
    · exact h.cnt v hv
  · obtain ⟨q', hq', he, hi⟩ := hmem v hv q hq
    obtain ⟨g, hg1, hg2⟩ := h.file v hv q' hq'
    obtain ⟨g', hg3, hg4⟩ := hfiles' _ _ hg1
    refine ⟨g', by rw [← he]; exact hg3, fun i hi' hkd => ?_⟩
    rw [← he, hg4]; exact hg2 i hi' (hi i hkd)
theorem written_keys {σ : Sys} {u : Nat} {name : ByteArray} {kk : Nat} (hk : (name, (kk : Int)) ∈ (σ.caches u).map Prod.fst) (v : Nat) : ((writtenS σ u name kk).caches v).map Prod.fst = (σ.caches v).map Prod.fst := by
  simp only [writtenS, Sys.setCache]
  split
  · rename_i e; subst e
    obtain ⟨pg, hg⟩ := AL.get_isSome hk
    obtain ⟨l1, l2, h1, h2⟩ := AL.put_split hg
    rw [h2, h1]; simp
  · rfl

/-- Writing the pages of a row of places, one behind the other: what a loop does that is the callee of 'written'. -/
theorem wrAll_snoc (u : Nat) (name : ByteArray) (p : Place) : ∀ (ps : List Place) (s : Sys × Nat), wrAll u name (ps ++ [p]) s = (writtenS (wrAll u name ps s).1 u name p.2.toNat, (wrAll u name ps s).2 + wrN (pageOf (wrAll u name ps s).1 u p) 32)
  | [], s => rfl
  | q :: ps, s => by simp only [List.cons_append, wrAll]; exact wrAll_snoc u name p ps _
theorem wrAll_good {u : Nat} (hu : u < 4) {name : ByteArray} {σ : Sys} (h : Good σ) : ∀ (ps : List Place) (n : Nat), (∀ p ∈ ps, p ∈ (σ.caches u).map Prod.fst ∧ p.1 = name) → Good (wrAll u name ps (σ, n)).1 ∧ (∀ v, ((wrAll u name ps (σ, n)).1.caches v).map Prod.fst = (σ.caches v).map Prod.fst) ∧ (wrAll u name ps (σ, n)).2 ≤ n + 32 * ps.length
  | [], n, _ => ⟨h, fun _ => rfl, by simp [wrAll]⟩
  | p :: ps, n, hp => by
    obtain ⟨hk, hnm⟩ := hp p (by simp)
    obtain ⟨nm, q⟩ := p
    have hnm : nm = name := hnm
    subst hnm
    obtain ⟨pg, hg⟩ := AL.get_isSome hk
    have hq := (h.near u hu _ (AL.get_mem hg)).1
    simp only at hq
    obtain ⟨kk, rfl⟩ := Int.eq_ofNat_of_zero_le hq
    have hG := h.written hu hk
    have hK := written_keys hk
    have := wrAll_good hu hG ps (n + wrN (pageOf σ u (nm, (kk : Int))) 32) fun p' hp' => ⟨by rw [hK]; exact (hp p' (by simp [hp'])).1, (hp p' (by simp [hp'])).2⟩
    have hle := wrN_le (pageOf σ u (nm, (kk : Int))) 32
    refine ⟨this.1, fun v => (this.2.1 v).trans (hK v), ?_⟩
    have h3 := this.2.2
    simp only [wrAll, Int.toNat_natCast, List.length_cons] at h3 ⊢
    omega

theorem flush_c {w : World} {d : Lay} {σ : Sys} (h : SysAt w d 0 σ) (hG : Good σ) (u : Int) (name : ByteArray) :
    Calls Tryz.prog 26 #[d.ptr, .int .i64 u, .string name] w fun e w' => ∃ n : Int, e = .returned (.tuple #[.int .i64 n, .int .i64 (enterC u name σ)]) ∧
      ((enterC u name σ ≠ 0 ∧ n = 0 ∧ Left w w' d d σ) ∨ (enterC u name σ = 0 ∧ ∃ ps : List Place, ps.Perm (((σ.caches u.toNat).map Prod.fst).filter (inPages name 0 65536)) ∧ n = ((wrAll u.toNat name ps (σ, 0)).2 : Nat) ∧ Left w w' d d (wrAll u.toNat name ps (σ, 0)).1)) := by
  refine F26_calls _ _ _ w _ ?_
  refine Calls.mono (enter_c h u name) ?_
  rintro e w2 ⟨rfl, h2, hf2⟩
  have hf2' : Fr (· ∈ d.own) w w2 := hf2.mono fun i hi _ => by rw [show i = d.S from hi]; exact mem_S d
  refine ⟨_, _, rfl, Br.of (fun he => ?_) (fun he => ?_)⟩
  · have he : enterC u name σ ≠ 0 := by simpa using he
    exact leave_left h2 hf2' fun w' hL _ => ⟨0, rfl, .inl ⟨he, rfl, hL⟩⟩
  · have he : enterC u name σ = 0 := by simpa using he
    obtain ⟨hu0, hu4, f, hf⟩ := enterC_zero he
    obtain ⟨un, rfl⟩ := Int.eq_ofNat_of_zero_le hu0
    have hun : un < 4 := by omega
    refine Calls.mono (pages_c h2 hG.near hun name (by omega) (by omega) (hG.cnt un hun)) ?_
    rintro e w3 ⟨l, ps, rfl, hrow, hperm, hp3, hblk⟩
    refine ⟨l, rfl, ?_⟩
    have hfl := flat_len ps
    have hl : l.len = ps.length := by have := hrow.1; omega
    rw [hl]
    have hps : ∀ p ∈ ps, p ∈ (σ.caches un).map Prod.fst ∧ p.1 = name := fun p hp => by
      have := hperm.mem_iff.1 hp
      obtain ⟨h1, h2⟩ := List.mem_filter.1 this
      exact ⟨h1, (of_decide_eq_true h2).1⟩
    have hcnt : ps.length ≤ 1000000 := by
      have h1 := hperm.length_eq
      have h2 := List.length_filter_le (inPages name 0 65536) ((σ.caches un).map Prod.fst)
      have h3 := hG.cnt un hun
      simp at h2; omega
    refine loopUp ps.length (fun k t w' => t = ((((wrAll un name (ps.take k) (σ, 0)).2 : Nat) : Int), (k : Int)) ∧ SysAt w' d 1 (wrAll un name (ps.take k) (σ, 0)).1 ∧ RowAt w' 92 2 l (ps.flatMap placeCells) ∧ Fr (· ∈ d.own) w w') ⟨rfl, h2.pu hp3, hrow, hf2'.trans (Fr.pu hp3 : Fr (· ∈ d.own) w2 w3) fun i hi _ => hi⟩ ?_
    rintro k J t w' hk ⟨rfl, hS, hrw, hfr⟩ hJ
    refine Br.of (fun hlt => ?_) (fun hge => ?_)
    · have hlt' : k < ps.length := by have := dtrue hlt; omega
      obtain ⟨p, hp⟩ : ∃ p, ps[k]? = some p := ⟨_, List.getElem?_eq_getElem hlt'⟩
      obtain ⟨g1, g2⟩ := flat_get ps hp
      obtain ⟨g, hga, hgc, hgb⟩ := hrw.base (fun e => by rw [e] at g1; simp at g1)
      have hpk := hps p (List.mem_of_getElem? hp)
      obtain ⟨nm, q⟩ := p
      have hnm : nm = name := hpk.2
      subst hnm
      obtain ⟨pg, hg⟩ := AL.get_isSome hpk.1
      have hq := (hG.near un hun _ (AL.get_mem hg)).1
      simp only at hq
      obtain ⟨kk, rfl⟩ := Int.eq_ofNat_of_zero_le hq
      obtain ⟨hGk, hKk, hNk⟩ := wrAll_good hun hG (ps.take k) 0 (name := nm) fun p' hp' => hps p' (List.mem_of_mem_take hp')
      refine ⟨⟨g, 0, none⟩, hga, by omega, by omega, nm, ?_, (kk : Int), ?_, ?_⟩
      · rw [add_def, add_def]; rw [← hgc (k * 2) _ g1]; congr 2; omega
      · rw [add_def, add_def]; rw [← hgc (k * 2 + 1) _ g2]; congr 2; omega
      refine alE_intro fun w4 hw4 => ?_
      have hp4 : Pu w' w4 := by rw [hw4]; exact Pu.alloc w' _
      have hb4 : w4.heap[w'.heap.size]? = some (.cells #[.string ⟨#[]⟩, .int .i64 0] 92) := by rw [hw4]; exact alloc_new w' _
      refine stA_fill hb4 (by rw [size66]; rfl) rfl rfl fun w5 hb5 hf5 hs5 => ?_
      have hP5 : Pu w' w5 := hp4.andNew hf5 fun i hi => by omega
      refine ⟨nm, by rw [add_def, cell_blk hb5]; rfl, (kk : Int), by rw [add_def, cell_blk hb5]; rfl, ?_⟩
      obtain ⟨b1, f', hf', hfl', hfi'⟩ := hGk.page hun (name := nm) (kk := kk) (by rw [hKk]; exact hpk.1)
      refine Calls.mono (written_c (hS.pu hP5) hun b1 hf' hfl' fun i hi hd => hfi' i hi (.inr hd)) ?_
      rintro e w6 ⟨rfl, h6, hf6⟩
      refine ⟨_, rfl, ?_⟩
      have hle := wrN_le (pageOf (wrAll un nm (ps.take k) (σ, 0)).1 un (nm, (kk : Int))) 32
      have htl : (ps.take k).length = k := by simp; omega
      rw [wrap_in (by omega) (by omega), wrap_in (by omega) (by omega)]
      have htk : ps.take (k + 1) = ps.take k ++ [(nm, (kk : Int))] := by rw [List.take_add_one, hp]; rfl
      have hle2 : w.heap.size ≤ w2.heap.size := hf2'.size
      refine hJ _ _ hlt' ⟨?_, ?_, ?_, ?_⟩
      · rw [htk, wrAll_snoc]; simp only [Prod.mk.injEq]; omega
      · rw [htk, wrAll_snoc]; simpa using h6
      · exact (hrw.pu hP5).fr hf6 fun b hb hbo => by have := hblk b hb; have := h2.lt b hbo; omega
      · exact (hfr.trans (Fr.pu hP5 : Fr (· ∈ d.own) w' w5) fun i hi _ => hi).trans hf6 fun i hi _ => hi
    · have hk : k = ps.length := by have := dfalse hge; omega
      subst hk
      rw [List.take_length] at hS ⊢
      refine leave_left hS hfr fun w' hL _ => ⟨_, by rw [he]; rfl, .inr ⟨he, ps, hperm, rfl, hL⟩⟩
end Go.Proofs.YtnigfiljenfgjaaGreat
