/- The disk: the pages of a cache; writing a page to the disk; flushing. -/
import Derived.Test.YtnigfiljenfgjaaGreatDzI
set_option maxRecDepth 100000
set_option linter.unusedVariables false
set_option linter.unusedSimpArgs false
namespace Go.Proofs.YtnigfiljenfgjaaGreat
open Go.Sh Go.RowKit

theorem AL.put_same {κ ν : Type} [DecidableEq κ] {l : List (κ × ν)} {k : κ} {v : ν} (h : AL.get l k = some v) : AL.put l k v = l := by
  induction l with
  | nil => simp [AL.get] at h
  | cons p l ih =>
    obtain ⟨a, b⟩ := p
    simp only [AL.get] at h
    by_cases e : a = k
    · simp [e] at h; simp [AL.put, e, h]
    · simp only [if_neg e] at h; simp [AL.put, e, ih h]
theorem AL.put_put {κ ν : Type} [DecidableEq κ] (l : List (κ × ν)) (k : κ) (v v' : ν) : AL.put (AL.put l k v) k v' = AL.put l k v' := by
  induction l with
  | nil => simp [AL.put]
  | cons p l ih =>
    obtain ⟨a, b⟩ := p
    by_cases e : a = k
    · simp [AL.put, e]
    · simp [AL.put, e, ih]

theorem FilesAt.split {w : World} {k : ByteArray} {s : SV} : ∀ {l1 l2 : List (ByteArray × SV)} {bs : List (ByteArray × List UInt8)}, FilesAt w (l1 ++ (k, s) :: l2) bs → ∃ b1 b b2, bs = b1 ++ (k, b) :: b2 ∧ FilesAt w l1 b1 ∧ RowAt w 5 1 s (b.map u8V) ∧ FilesAt w l2 b2
  | [], l2, [], h => h.elim
  | [], l2, (n, b) :: bs, ⟨h1, h2, h3⟩ => ⟨[], b, bs, by have h1 : k = n := h1; subst h1; rfl, trivial, h2, h3⟩
  | p :: l1, l2, [], h => h.elim
  | p :: l1, l2, q :: bs, ⟨h1, h2, h3⟩ => by
    obtain ⟨b1, b, b2, h4, h5, h6, h7⟩ := FilesAt.split h3
    exact ⟨q :: b1, b, b2, by rw [h4]; rfl, ⟨h1, h2, h5⟩, h6, h7⟩
theorem FilesAt.join {w : World} {k : ByteArray} {s : SV} {b : List UInt8} : ∀ {l1 l2 : List (ByteArray × SV)} {b1 b2 : List (ByteArray × List UInt8)}, FilesAt w l1 b1 → RowAt w 5 1 s (b.map u8V) → FilesAt w l2 b2 → FilesAt w (l1 ++ (k, s) :: l2) (b1 ++ (k, b) :: b2)
  | [], l2, [], b2, _, h2, h3 => ⟨rfl, h2, h3⟩
  | [], l2, _ :: _, b2, h, _, _ => h.elim
  | _ :: _, l2, [], b2, h, _, _ => h.elim
  | p :: l1, l2, q :: b1, b2, ⟨h1, h2, h3⟩, h4, h5 => ⟨h1, h2, FilesAt.join h3 h4 h5⟩
theorem AL.put_append {κ ν : Type} [DecidableEq κ] {l1 l2 : List (κ × ν)} {k : κ} {v v' : ν} (h : k ∉ l1.map Prod.fst) : AL.put (l1 ++ (k, v) :: l2) k v' = l1 ++ (k, v') :: l2 := by
  induction l1 with
  | nil => simp [AL.put]
  | cons p l ih =>
    obtain ⟨a, b⟩ := p
    simp only [List.map_cons, List.mem_cons, not_or] at h
    simp [AL.put, Ne.symm h.1, ih h.2]
theorem FilesAt.keys {w : World} : ∀ {fs : List (ByteArray × SV)} {bs : List (ByteArray × List UInt8)}, FilesAt w fs bs → fs.map Prod.fst = bs.map Prod.fst
  | [], [], _ => rfl
  | p :: fs, q :: bs, ⟨h1, _, h3⟩ => by simp [h1, FilesAt.keys h3]

/-- The bytes of a file are changed in place. -/
theorem SysAt.setBytes {w w' : World} {d : Lay} {mu : Int} {σ : Sys} (h : SysAt w d mu σ) {name : ByteArray} {s : SV} {b' : List UInt8} (hg : AL.get d.fs name = some s) (hr : RowAt w' 5 1 s (b'.map u8V)) (hf : Fr (· ∈ blkOf s) w w') :
    SysAt w' d mu { σ with files := AL.put σ.files name b' } := by
  obtain ⟨n1, n2, n3, n4, n5⟩ := h.ne
  have hmem : (name, s) ∈ d.fs := AL.get_mem hg
  obtain ⟨m1, m2, m3⟩ : (∀ k ∈ blkOf s, k ≠ d.S) ∧ (∀ k ∈ blkOf s, k ≠ d.M) ∧ (∀ k ∈ blkOf s, ∀ u, u < 4 → k ≠ d.c u) := ⟨fun k hk => (n5 _ hmem k hk).1, fun k hk => (n5 _ hmem k hk).2.1, fun k hk => (n5 _ hmem k hk).2.2⟩
  refine ⟨hf.blk h.st fun hb => m1 _ hb rfl, h.mp.fr hf fun hb => m2 _ hb rfl, ?_, fun u hu => (h.ca u hu).fr hf fun hb => m3 _ hb u hu rfl, h.lk.fr hf fun k hk hb => (n4 k hk).2.2.2 _ hmem hb, h.nd⟩
  obtain ⟨l1, l2, e1, e2⟩ := AL.put_split hg
  have hfl := h.fl
  have hk1 : name ∉ l1.map Prod.fst := by
    have := h.mp.nodup
    rw [e1] at this
    simp only [List.map_append, List.map_cons] at this
    have := (List.nodup_append.1 this).2.2
    exact fun hm => this name hm name (by simp) rfl
  have hdis : ∀ p ∈ l1 ++ l2, ∀ k ∈ blkOf p.2, k ∉ blkOf s := by
    have hn := h.nd
    simp only [Lay.own, List.nodup_cons] at hn
    have hn := (List.nodup_append.1 hn.2.2.2.2.2.2).2.1
    rw [e1] at hn
    simp only [List.flatMap_append, List.flatMap_cons] at hn
    obtain ⟨a1, a2, a3⟩ := List.nodup_append.1 hn
    obtain ⟨c1, c2, c3⟩ := List.nodup_append.1 a2
    intro p hp k hk hks
    rcases List.mem_append.1 hp with hp | hp
    · exact a3 k (List.mem_flatMap.2 ⟨p, hp, hk⟩) k (List.mem_append_left _ hks) rfl
    · exact c3 k hks k (List.mem_flatMap.2 ⟨p, hp, hk⟩) rfl
  rw [e1] at hfl ⊢
  obtain ⟨b1, b, b2, e3, f1, f2, f3⟩ := FilesAt.split hfl
  show FilesAt w' _ (AL.put σ.files name b')
  have hk2 : name ∉ b1.map Prod.fst := by rw [← f1.keys]; exact hk1
  rw [e3, AL.put_append hk2]
  exact FilesAt.join (f1.fr hf fun p hp => hdis p (List.mem_append_left _ hp)) hr (f3.fr hf fun p hp => hdis p (List.mem_append_right _ hp))

/-! ### written -/
def wrF (pg : Page) (kk : Nat) (f : List UInt8) : Nat → List UInt8
  | 0 => f
  | m + 1 => if pg.di m = true then (wrF pg kk f m).set (kk * 32 + m) (pg.b m) else wrF pg kk f m
def wrN (pg : Page) : Nat → Nat
  | 0 => 0
  | m + 1 => if pg.di m = true then wrN pg m + 1 else wrN pg m
def clearTo (m : Nat) (pg : Page) : Page := { pg with di := fun j => if j < m then false else pg.di j }
theorem wrF_len (pg : Page) (kk : Nat) (f : List UInt8) (m : Nat) : (wrF pg kk f m).length = f.length := by
  induction m with
  | zero => rfl
  | succ m ih => simp only [wrF]; split <;> simp [ih]
theorem wrN_le (pg : Page) (m : Nat) : wrN pg m ≤ m := by
  induction m with
  | zero => exact Nat.le_refl _
  | succ m ih => simp only [wrN]; split <;> omega
theorem clearTo_zero (pg : Page) : clearTo 0 pg = pg := Page.ext' (fun _ => rfl) (fun _ => rfl) (fun j => by simp [clearTo])
theorem clearTo_di (pg : Page) (m : Nat) : (clearTo m pg).di m = pg.di m := by simp [clearTo]
theorem clearTo_step (pg : Page) (m : Nat) : ({ (clearTo m pg) with di := upN (clearTo m pg).di m false } : Page) = clearTo (m + 1) pg := Page.ext' (fun _ => rfl) (fun _ => rfl) (fun j => by
  simp only [upN, clearTo]
  by_cases e : j = m
  · subst e; simp
  · have : j < m + 1 ↔ j < m := by omega
    simp [e, this])
theorem clearTo_skip (pg : Page) (m : Nat) (h : pg.di m = false) : clearTo m pg = clearTo (m + 1) pg := Page.ext' (fun _ => rfl) (fun _ => rfl) (fun j => by
  simp only [clearTo]
  by_cases e : j = m
  · subst e; simp [h]
  · have : j < m + 1 ↔ j < m := by omega
    simp [this])
/-- What writing a page does to the system. -/
def writtenS (σ : Sys) (u : Nat) (name : ByteArray) (kk : Nat) : Sys :=
  ({ σ with files := AL.put σ.files name (wrF (pageOf σ u (name, (kk : Int))) kk (fileOf σ name) 32) } : Sys).setCache u (AL.put (σ.caches u) (name, (kk : Int)) (clearTo 32 (pageOf σ u (name, (kk : Int)))))

theorem written_c {w : World} {d : Lay} {mu : Int} {σ : Sys} (h : SysAt w d mu σ) {u : Nat} (hu : u < 4) {name : ByteArray} {kk : Nat} (hkk : kk ≤ 1000000) {f : List UInt8} (hf : AL.get σ.files name = some f) (hfl : f.length ≤ 1000000)
    (hdi : ∀ i, i < 32 → (pageOf σ u (name, (kk : Int))).di i = true → kk * 32 + i < f.length) :
    Calls Tryz.prog 70 #[d.ptr, .int .i64 (u : Int), ekP (name, (kk : Int))] w fun e w' => e = .returned (.int .i64 (wrN (pageOf σ u (name, (kk : Int))) 32 : Nat)) ∧ SysAt w' d mu (writtenS σ u name kk) ∧ Fr (· ∈ d.own) w w' := by
  refine F70_calls _ _ name (kk : Int) w _ ?_
  generalize hpg : pageOf σ u (name, (kk : Int)) = pg at hdi ⊢
  refine alE_intro fun w1 hw1 => dwE_intro fun w3 hp3 hh3 => ?_
  have hp1 : Pu w w1 := by rw [hw1]; exact Pu.alloc w _
  have hb1 : w1.heap[w.heap.size]? = some (.cells #[.string name, .int .i64 (kk : Int)] 92) := by rw [hw1]; exact alloc_new w _
  have hs1 : w1.heap.size = w.heap.size + 1 := by rw [hw1]; simp
  have hs3 : w3.heap.size = w.heap.size + 1 := by rw [hh3]; exact hs1
  have h3 : SysAt w3 d mu σ := h.pu (hp1.trans hp3)
  have hb13 := hp3.blk hb1
  refine ⟨fun w' => SysAt w' d mu σ ∧ w'.heap[w.heap.size]? = some (.cells #[.string name, .int .i64 (kk : Int)] 92), ⟨h3, hb13⟩, ?_⟩
  refine ⟨by omega, by omega, some (d.c u), fun w' h' => h'.1.cellC hu, name, fun w' h' => ?_, (kk : Int), fun w' h' => ?_, pg.cells, Page.size_cells _, fun w' h' => by have := look_page h'.1 hu (name, (kk : Int)); rw [hpg] at this; exact this, ?_⟩
  · rw [add_def, cell_blk h'.2]; rfl
  · rw [add_def, cell_blk h'.2]; rfl
  refine alE_intro fun w4 hw4 => ?_
  have hp4 : Pu w3 w4 := by rw [hw4]; exact Pu.alloc w3 _
  have hs4 : w4.heap.size = w.heap.size + 2 := by rw [hw4]; simp [hs3]
  have hb4 : w4.heap[w3.heap.size]? = some (.cells (zc Tryz.prog 89) 89) := by rw [hw4]; exact alloc_new w3 _
  refine ⟨⟨h3.pu hp4, hp4.blk hb13⟩, ?_⟩
  refine stA_fill hb4 (by rw [Page.size_cells, size61]) (by rw [zero61, Page.size_cells, Page.size_cells]) (Page.one _) fun w5 hb5 hf5 hs5 => ?_
  have hP5 : Pu w w5 := ((hp1.trans hp3).trans hp4).andNew hf5 fun i hi => by omega
  have h5 := h.pu hP5
  have hb15 : w5.heap[w.heap.size]? = some (.cells #[.string name, .int .i64 (kk : Int)] 92) := hf5.blk (hp4.blk hb13) (by omega)
  refine loopUp 32 (fun k t w' => t = (((wrN pg k : Nat) : Int), (k : Int)) ∧ SysAt w' d mu { σ with files := AL.put σ.files name (wrF pg kk f k) } ∧ w'.heap[w3.heap.size]? = some (.cells (clearTo k pg).cells 89) ∧ Fr (fun b => b ∈ d.own ∨ b = w3.heap.size) w5 w') ⟨rfl, ?_, by rw [clearTo_zero]; exact hb5, Fr.refl _ _⟩ ?_
  · simp only [wrF, AL.put_same hf]; exact h5
  rintro k J t w' hk ⟨rfl, hS, hbx, hfr⟩ hJ
  have hb1w : w'.heap[w.heap.size]? = some (.cells #[.string name, .int .i64 (kk : Int)] 92) := hfr.blk hb15 fun hb => by
    rcases hb with hb | hb
    · have := h.lt _ hb; omega
    · omega
  have hfk : AL.get (AL.put σ.files name (wrF pg kk f k)) name = some (wrF pg kk f k) := by rw [AL.get_put]; simp
  refine Br.of (fun hlt => ?_) (fun hge => ?_)
  · have hlt : k < 32 := by have := dtrue hlt; omega
    refine ⟨by omega, by omega, _, by rw [add_def, add_def, cell_blk hbx]; simpa using Page.get_di _ hlt, ?_⟩
    rw [clearTo_di]
    refine Br.of (fun hd => ?_) (fun hd => ?_)
    · refine dwE_intro fun w6 hp6 hh6 => ?_
      have h6 := hS.pu hp6
      obtain ⟨s, hl, hr, hgs, hmem, hsl⟩ := look_file h6 hfk
      have hb6 := hp6.blk hb1w
      have hx6 := hp6.blk hbx
      have hidx := hdi k hlt hd
      refine ⟨some d.M, h6.cellM, name, by rw [cell_blk hb6]; rfl, s, hl, (kk : Int), by rw [add_def, cell_blk hb6]; rfl, by omega, by omega, _, by rw [add_def, cell_blk hx6, show 0 + (k : Int).toNat * 1 = k by omega]; exact Page.get_b _ hlt, ?_⟩
      rw [wrap_in (n := (kk : Int) * 32) (by omega) (by omega), wrap_in (n := (kk : Int) * 32 + (k : Int)) (by omega) (by omega), hsl, wrF_len]
      have hbx' : (clearTo k pg).b k = pg.b k := rfl
      obtain ⟨a, ha, hst⟩ := hr.st1 (j := kk * 32 + k) (by simp [wrF_len]; omega) (u8V (pg.b k)) (K := fun w14 => 0 ≤ (k : Int) ∧ (k : Int) < ((32 : Nat) : Int) ∧ Sh.st1 (((⟨w3.heap.size, 0, none⟩ : Addr).add 64).add ((k : Int).toNat * 1)) (.bool false) w14 fun w16 =>
          J ((IntKind.i64.wrap (((wrN pg k : Nat) : Int) + 1)), (IntKind.i64.wrap ((k : Int) + 1))) w16) fun w7 hr7 hf7 hs7 => by
        refine ⟨by omega, by omega, ?_⟩
        have h7 := h6.setBytes (b' := (wrF pg kk f k).set (kk * 32 + k) (pg.b k)) hgs (by rw [List.map_set]; exact hr7) hf7
        have hn3 : w3.heap.size ∉ blkOf s := fun hb => by have := h.lt _ (Lay.mem_file hmem _ hb); omega
        rw [add_def, add_def]
        refine st1_intro (hf7.blk hx6 hn3) (by rw [Page.size_cells]; omega) fun w8 hw8 hb8 => ?_
        have hf8 : Fr (· = w3.heap.size) w7 w8 := by rw [hw8]; exact Fr.cell w7 _ _ _
        have hwn := wrN_le pg k
        rw [wrap_in (by omega) (by omega), wrap_in (by omega) (by omega)]
        refine hJ _ _ hlt ⟨by simp [wrN, hd], ?_, ?_, ?_⟩
        · have := h7.fr hf8 fun b hb e => by have := h.lt _ hb; omega
          simp only [AL.put_put] at this
          simp only [wrF, hd, if_true]
          exact this
        · rw [hb8, show 0 + 64 + (k : Int).toNat * 1 = 64 + k by omega, Page.set_di _ hlt, clearTo_step]
        · exact ((hfr.trans (Fr.pu hp6 : Fr (fun b => b ∈ d.own ∨ b = w3.heap.size) w' w6) fun i hi _ => hi).trans hf7 fun i hi _ => .inl (Lay.mem_file hmem _ hi)).trans hf8 fun i hi _ => .inr hi
      refine ⟨a, ha, by omega, by omega, ?_⟩
      rw [show ((kk : Int) * 32 + (k : Int)).toNat * 1 = kk * 32 + k by omega]
      exact hst
    · have hwn := wrN_le pg k
      rw [wrap_in (by omega) (by omega)]
      exact hJ _ _ hlt ⟨by simp [wrN, hd], by simp only [wrF, hd]; exact hS, by rw [hbx, clearTo_skip _ _ hd], hfr⟩
  · have hk32 : k = 32 := by have := dfalse hge; omega
    subst hk32
    refine dwE_intro fun w6 hp6 hh6 => ?_
    have h6 := hS.pu hp6
    have hb6 := hp6.blk hb1w
    have hx6 := hp6.blk hbx
    obtain ⟨w7, hr7, hm7, hf7, _⟩ := (h6.ca u hu).upd keysP u48 (name, (kk : Int)) (clearTo 32 pg)
    refine ⟨by omega, by omega, some (d.c u), h6.cellC hu, name, by rw [add_def, cell_blk hb6]; rfl, (kk : Int), by rw [add_def, cell_blk hb6]; rfl, _, Page.size_cells _, cells_at hx6 96, w7, hr7, rfl, ?_, ?_⟩
    · have := h6.setCache hu hm7 hf7
      have hfo : fileOf σ name = f := by simp [fileOf, hf]
      unfold writtenS
      rw [hpg, hfo]
      exact this
    · refine (((Fr.pu hP5 : Fr (· ∈ d.own) w w5).trans hfr fun i hi hlt => ?_).trans (Fr.pu hp6 : Fr (· ∈ d.own) w' w6) fun i hi _ => hi).trans hf7 fun i hi _ => by rw [show i = d.c u from hi]; exact d.mem_c hu
      rcases hi with hi | hi
      · exact hi
      · omega
end Go.Proofs.YtnigfiljenfgjaaGreat
