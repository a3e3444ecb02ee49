import Derived.Test.YtnigfiljenfgjaaGreatDzOwA
/- The disk: the pages of a cache; writing a page to the disk; flushing. -/
set_option maxRecDepth 100000
set_option linter.unusedVariables false
set_option linter.unusedSimpArgs false
namespace Go.Proofs.YtnigfiljenfgjaaGreat
open Go.Sh Go.RowKit
theorem AL.put_same {κ ν : Type} [DecidableEq κ] {l : List (κ × ν)} {k : κ} {v : ν} (h : AL.get l k = some v) : AL.put l k v = l := by
  induction l with
  | nil => simp [AL.get] at h
  | cons p l ih =>
    obtain ⟨a, b⟩ := p
    simp only [AL.get] at h
    by_cases e : a = k
    · simp [e] at h; simp [AL.put, e, h]
    · simp only [if_neg e] at h; simp [AL.put, e, ih h]
theorem AL.put_put {κ ν : Type} [DecidableEq κ] (l : List (κ × ν)) (k : κ) (v v' : ν) : AL.put (AL.put l k v) k v' = AL.put l k v' := by
  induction l with
  | nil => simp [AL.put]
  | cons p l ih =>
    obtain ⟨a, b⟩ := p
    by_cases e : a = k
    · simp [AL.put, e]
    · simp [AL.put, e, ih]
theorem FilesAt.split {w : World} {k : ByteArray} {s : SV} : ∀ {l1 l2 : List (ByteArray × SV)} {bs : List (ByteArray × List UInt8)}, FilesAt w (l1 ++ (k, s) :: l2) bs -> ∃ b1 b b2, bs = b1 ++ (k, b) :: b2 /\ FilesAt w l1 b1 /\ RowAt w 5 1 s (b.map u8V) /\ FilesAt w l2 b2
  | [], l2, [], h => h.elim
  | [], l2, (n, b) :: bs, ⟨h1, h2, h3⟩ => ⟨[], b, bs, by have h1 : k = n := h1; subst h1; rfl, trivial, h2, h3⟩
  | p :: l1, l2, [], h => h.elim
  | p :: l1, l2, q :: bs, ⟨h1, h2, h3⟩ => by
    obtain ⟨b1, b, b2, h4, h5, h6, h7⟩ := FilesAt.split h3
    exact ⟨q :: b1, b, b2, by rw [h4]; rfl, ⟨h1, h2, h5⟩, h6, h7⟩
theorem FilesAt.join {w : World} {k : ByteArray} {s : SV} {b : List UInt8} : ∀ {l1 l2 : List (ByteArray × SV)} {b1 b2 : List (ByteArray × List UInt8)}, FilesAt w l1 b1 -> RowAt w 5 1 s (b.map u8V) -> FilesAt w l2 b2 -> FilesAt w (l1 ++ (k, s) :: l2) (b1 ++ (k, b) :: b2)
  | [], l2, [], b2, _, h2, h3 => ⟨rfl, h2, h3⟩
  | [], l2, _ :: _, b2, h, _, _ => h.elim
  | _ :: _, l2, [], b2, h, _, _ => h.elim
  | p :: l1, l2, q :: b1, b2, ⟨h1, h2, h3⟩, h4, h5 => ⟨h1, h2, FilesAt.join h3 h4 h5⟩
theorem AL.put_append {κ ν : Type} [DecidableEq κ] {l1 l2 : List (κ × ν)} {k : κ} {v v' : ν} (h : k ∉ l1.map Prod.fst) : AL.put (l1 ++ (k, v) :: l2) k v' = l1 ++ (k, v') :: l2 := by
  induction l1 with
  | nil => simp [AL.put]
  | cons p l ih =>
    obtain ⟨a, b⟩ := p
    simp only [List.map_cons, List.mem_cons, not_or] at h
    simp [AL.put, Ne.symm h.1, ih h.2]
theorem FilesAt.keys {w : World} : ∀ {fs : List (ByteArray × SV)} {bs : List (ByteArray × List UInt8)}, FilesAt w fs bs -> fs.map Prod.fst = bs.map Prod.fst
  | [], [], _ => rfl
  | p :: fs, q :: bs, ⟨h1, _, h3⟩ => by simp [h1, FilesAt.keys h3]
theorem SysAt.setBytes {w w' : World} {d : Lay} {mu : Int} {σ : Sys} (h : SysAt w d mu σ) {name : ByteArray} {s : SV} {b' : List UInt8} (hg : AL.get d.fs name = some s) (hr : RowAt w' 5 1 s (b'.map u8V)) (hf : Fr (· ∈ blkOf s) w w') :
    SysAt w' d mu { σ with files := AL.put σ.files name b' } := by
  obtain ⟨n1, n2, n3, n4, n5⟩ := h.ne
  have hmem : (name, s) ∈ d.fs := AL.get_mem hg
  obtain ⟨m1, m2, m3⟩ : (∀ k ∈ blkOf s, k ≠ d.S) /\ (∀ k ∈ blkOf s, k ≠ d.M) /\ (∀ k ∈ blkOf s, ∀ u, u < 4 -> k ≠ d.c u) := ⟨fun k hk => (n5 _ hmem k hk).1, fun k hk => (n5 _ hmem k hk).2.1, fun k hk => (n5 _ hmem k hk).2.2⟩
  refine ⟨hf.blk h.st fun hb => m1 _ hb rfl, h.mp.fr hf fun hb => m2 _ hb rfl, ?_, fun u hu => (h.ca u hu).fr hf fun hb => m3 _ hb u hu rfl, h.lk.fr hf fun k hk hb => (n4 k hk).2.2.2 _ hmem hb, h.nd⟩
  obtain ⟨l1, l2, e1, e2⟩ := AL.put_split hg
  have hfl := h.fl
  have hk1 : name ∉ l1.map Prod.fst := by
    have := h.mp.nodup
    rw [e1] at this
    simp only [List.map_append, List.map_cons] at this
    have := (List.nodup_append.1 this).2.2
    exact fun hm => this name hm name (by simp) rfl
  have hdis : ∀ p ∈ l1 ++ l2, ∀ k ∈ blkOf p.2, k ∉ blkOf s := by
    have hn := h.nd
    simp only [Lay.own, List.nodup_cons] at hn
    have hn := (List.nodup_append.1 hn.2.2.2.2.2.2).2.1
    rw [e1] at hn
    simp only [List.flatMap_append, List.flatMap_cons] at hn
    obtain ⟨a1, a2, a3⟩ := List.nodup_append.1 hn
    obtain ⟨c1, c2, c3⟩ := List.nodup_append.1 a2
    intro p hp k hk hks
    rcases List.mem_append.1 hp with hp | hp
    · exact a3 k (List.mem_flatMap.2 ⟨p, hp, hk⟩) k (List.mem_append_left _ hks) rfl
    · exact c3 k hks k (List.mem_flatMap.2 ⟨p, hp, hk⟩) rfl
  rw [e1] at hfl ⊢
  obtain ⟨b1, b, b2, e3, f1, f2, f3⟩ := FilesAt.split hfl
  show FilesAt w' _ (AL.put σ.files name b')
  have hk2 : name ∉ b1.map Prod.fst := by rw [← f1.keys]; exact hk1
  rw [e3, AL.put_append hk2]
  exact FilesAt.join (f1.fr hf fun p hp => hdis p (List.mem_append_left _ hp)) hr (f3.fr hf fun p hp => hdis p (List.mem_append_right _ hp))
def wrF (pg : Page) (kk : Nat) (f : List UInt8) : Nat -> List UInt8
  | 0 => f
  | m + 1 => if pg.di m = true then (wrF pg kk f m).set (kk * 32 + m) (pg.b m) else wrF pg kk f m
def wrN (pg : Page) : Nat -> Nat
  | 0 => 0
  | m + 1 => if pg.di m = true then wrN pg m + 1 else wrN pg m
def clearTo (m : Nat) (pg : Page) : Page := { pg with di := fun j => if j < m then false else pg.di j }
theorem wrF_len (pg : Page) (kk : Nat) (f : List UInt8) (m : Nat) : (wrF pg kk f m).length = f.length := by
  induction m with
  | zero => rfl
  | succ m ih => simp only [wrF]; split <;> simp [ih]
theorem wrN_le (pg : Page) (m : Nat) : wrN pg m <= m := by
  induction m with
  | zero => exact Nat.le_refl _
  | succ m ih => simp only [wrN]; split <;> omega
theorem clearTo_zero (pg : Page) : clearTo 0 pg = pg := Page.ext' (fun _ => rfl) (fun _ => rfl) (fun j => by simp [clearTo])
theorem clearTo_di (pg : Page) (m : Nat) : (clearTo m pg).di m = pg.di m := by simp [clearTo]
theorem clearTo_step (pg : Page) (m : Nat) : ({ (clearTo m pg) with di := upN (clearTo m pg).di m false } : Page) = clearTo (m + 1) pg := Page.ext' (fun _ => rfl) (fun _ => rfl) (fun j => by
  simp only [upN, clearTo]
  by_cases e : j = m
  · subst e; simp
  · have : j < m + 1 ↔ j < m := by omega
    simp [e, this])
theorem clearTo_skip (pg : Page) (m : Nat) (h : pg.di m = false) : clearTo m pg = clearTo (m + 1) pg := Page.ext' (fun _ => rfl) (fun _ => rfl) (fun j => by
  simp only [clearTo]
  by_cases e : j = m
  · subst e; simp [h]
  · have : j < m + 1 ↔ j < m := by omega
    simp [this])
def writtenS (σ : Sys) (u : Nat) (name : ByteArray) (kk : Nat) : Sys :=
  ({ σ with files := AL.put σ.files name (wrF (pageOf σ u (name, (kk : Int))) kk (fileOf σ name) 32) } : Sys).setCache u (AL.put (σ.caches u) (name, (kk : Int)) (clearTo 32 (pageOf σ u (name, (kk : Int)))))
theorem written_c {w : World} {d : Lay} {mu : Int} {σ : Sys} (h : SysAt w d mu σ) {u : Nat} (hu : u < 4) {name : ByteArray} {kk : Nat} (hkk : kk <= 1000000) {f : List UInt8} (hf : AL.get σ.files name = some f) (hfl : f.length <= 1000000)
    (hdi : ∀ i, i < 32 -> (pageOf σ u (name, (kk : Int))).di i = true -> kk * 32 + i < f.length) :
    Calls Tryz.prog 70 #[d.ptr, .int .i64 (u : Int), ekP (name, (kk : Int))] w fun e w' => e = .returned (.int .i64 (wrN (pageOf σ u (name, (kk : Int))) 32 : Nat)) /\ SysAt w' d mu (writtenS σ u name kk) /\ Fr (· ∈ d.own) w w' := by
  refine F70_calls _ _ name (kk : Int) w _ ?_
  generalize hpg : pageOf σ u (name, (kk : Int)) = pg at hdi ⊢
  refine alE_intro fun w1 hw1 => dwE_intro fun w3 hp3 hh3 => ?_
  have hp1 : Pu w w1 := by rw [hw1]; exact Pu.alloc w _
  have hb1 : w1.heap[w.heap.size]? = some (.cells #[.string name, .int .i64 (kk : Int)] 92) := by rw [hw1]; exact alloc_new w _
  have hs1 : w1.heap.size = w.heap.size + 1 := by rw [hw1]; simp
  have hs3 : w3.heap.size = w.heap.size + 1 := by rw [hh3]; exact hs1
  have h3 : SysAt w3 d mu σ := h.pu (hp1.trans hp3)
  have hb13 := hp3.blk hb1
  refine ⟨fun w' => SysAt w' d mu σ /\ w'.heap[w.heap.size]? = some (.cells #[.string name, .int .i64 (kk : Int)] 92), ⟨h3, hb13⟩, ?_⟩
  refine ⟨by omega, by omega, some (d.c u), fun w' h' => h'.1.cellC hu, name, fun w' h' => ?_, (kk : Int), fun w' h' => ?_, pg.cells, Page.size_cells _, fun w' h' => by have := look_page h'.1 hu (name, (kk : Int)); rw [hpg] at this; exact this, ?_⟩
  · rw [add_def, cell_blk h'.2]; rfl
  · rw [add_def, cell_blk h'.2]; rfl
  refine alE_intro fun w4 hw4 => ?_
  have hp4 : Pu w3 w4 := by rw [hw4]; exact Pu.alloc w3 _
  have hs4 : w4.heap.size = w.heap.size + 2 := by rw [hw4]; simp [hs3]
  have hb4 : w4.heap[w3.heap.size]? = some (.cells (zc Tryz.prog 89) 89) := by rw [hw4]; exact alloc_new w3 _
  refine ⟨⟨h3.pu hp4, hp4.blk hb13⟩, ?_⟩
  refine stA_fill hb4 (by rw [Page.size_cells, size61]) (by rw [zero61, Page.size_cells, Page.size_cells]) (Page.one _) fun w5 hb5 hf5 hs5 => ?_
  have hP5 : Pu w w5 := ((hp1.trans hp3).trans hp4).andNew hf5 fun i hi => by omega
  have h5 := h.pu hP5
  have hb15 : w5.heap[w.heap.size]? = some (.cells #[.string name, .int .i64 (kk : Int)] 92) := hf5.blk (hp4.blk hb13) (by omega)
  refine loopUp 32 (fun k t w' => t = (((wrN pg k : Nat) : Int), (k : Int)) /\ SysAt w' d mu { σ with files := AL.put σ.files name (wrF pg kk f k) } /\ w'.heap[w3.heap.size]? = some (.cells (clearTo k pg).cells 89) /\ Fr (fun b => b ∈ d.own ∨ b = w3.heap.size) w5 w') ⟨rfl, ?_, by rw [clearTo_zero]; exact hb5, Fr.refl _ _⟩ ?_
  · simp only [wrF, AL.put_same hf]; exact h5
  rintro k J t w' hk ⟨rfl, hS, hbx, hfr⟩ hJ
  have hb1w : w'.heap[w.heap.size]? = some (.cells #[.string name, .int .i64 (kk : Int)] 92) := hfr.blk hb15 fun hb => by
    rcases hb with hb | hb
    · have := h.lt _ hb; omega
    · omega
  have hfk : AL.get (AL.put σ.files name (wrF pg kk f k)) name = some (wrF pg kk f k) := by rw [AL.get_put]; simp
  refine Br.of (fun hlt => ?_) (fun hge => ?_)
  · have hlt : k < 32 := by have := dtrue hlt; omega
    refine ⟨by omega, by omega, _, by rw [add_def, add_def, cell_blk hbx]; simpa using Page.get_di _ hlt, ?_⟩
    rw [clearTo_di]
    refine Br.of (fun hd => ?_) (fun hd => ?_)
    · refine dwE_intro fun w6 hp6 hh6 => ?_
      have h6 := hS.pu hp6
      obtain ⟨s, hl, hr, hgs, hmem, hsl⟩ := look_file h6 hfk
      have hb6 := hp6.blk hb1w
      have hx6 := hp6.blk hbx
      have hidx := hdi k hlt hd
      refine ⟨some d.M, h6.cellM, name, by rw [cell_blk hb6]; rfl, s, hl, (kk : Int), by rw [add_def, cell_blk hb6]; rfl, by omega, by omega, _, by rw [add_def, cell_blk hx6, show 0 + (k : Int).toNat * 1 = k by omega]; exact Page.get_b _ hlt, ?_⟩
      rw [wrap_in (n := (kk : Int) * 32) (by omega) (by omega), wrap_in (n := (kk : Int) * 32 + (k : Int)) (by omega) (by omega), hsl, wrF_len]
      have hbx' : (clearTo k pg).b k = pg.b k := rfl
      obtain ⟨a, ha, hst⟩ := hr.st1 (j := kk * 32 + k) (by simp [wrF_len]; omega) (u8V (pg.b k)) (K := fun w14 => 0 <= (k : Int) /\ (k : Int) < ((32 : Nat) : Int) /\ Sh.st1 (((⟨w3.heap.size, 0, none⟩ : Addr).add 64).add ((k : Int).toNat * 1)) (.bool false) w14 fun w16 =>
          J ((IntKind.i64.wrap (((wrN pg k : Nat) : Int) + 1)), (IntKind.i64.wrap ((k : Int) + 1))) w16) fun w7 hr7 hf7 hs7 => by
        refine ⟨by omega, by omega, ?_⟩
        have h7 := h6.setBytes (b' := (wrF pg kk f k).set (kk * 32 + k) (pg.b k)) hgs (by rw [List.map_set]; exact hr7) hf7
        have hn3 : w3.heap.size ∉ blkOf s := fun hb => by have := h.lt _ (Lay.mem_file hmem _ hb); omega
        rw [add_def, add_def]
        refine st1_intro (hf7.blk hx6 hn3) (by rw [Page.size_cells]; omega) fun w8 hw8 hb8 => ?_
        have hf8 : Fr (· = w3.heap.size) w7 w8 := by rw [hw8]; exact Fr.cell w7 _ _ _
        have hwn := wrN_le pg k
        rw [wrap_in (by omega) (by omega), wrap_in (by omega) (by omega)]
        refine hJ _ _ hlt ⟨by simp [wrN, hd], ?_, ?_, ?_⟩
        · have := h7.fr hf8 fun b hb e => by have := h.lt _ hb; omega
          simp only [AL.put_put] at this
          simp only [wrF, hd, if_true]
          exact this
        · rw [hb8, show 0 + 64 + (k : Int).toNat * 1 = 64 + k by omega, Page.set_di _ hlt, clearTo_step]
        · exact ((hfr.trans (Fr.pu hp6 : Fr (fun b => b ∈ d.own ∨ b = w3.heap.size) w' w6) fun i hi _ => hi).trans hf7 fun i hi _ => .inl (Lay.mem_file hmem _ hi)).trans hf8 fun i hi _ => .inr hi
      refine ⟨a, ha, by omega, by omega, ?_⟩
      rw [show ((kk : Int) * 32 + (k : Int)).toNat * 1 = kk * 32 + k by omega]
      exact hst
    · have hwn := wrN_le pg k
      rw [wrap_in (by omega) (by omega)]
      exact hJ _ _ hlt ⟨by simp [wrN, hd], by simp only [wrF, hd]; exact hS, by rw [hbx, clearTo_skip _ _ hd], hfr⟩
  · have hk32 : k = 32 := by have := dfalse hge; omega
    subst hk32
    refine dwE_intro fun w6 hp6 hh6 => ?_
    have h6 := hS.pu hp6
    have hb6 := hp6.blk hb1w
    have hx6 := hp6.blk hbx
    obtain ⟨w7, hr7, hm7, hf7, _⟩ := (h6.ca u hu).upd keysP u48 (name, (kk : Int)) (clearTo 32 pg)
    refine ⟨by omega, by omega, some (d.c u), h6.cellC hu, name, by rw [add_def, cell_blk hb6]; rfl, (kk : Int), by rw [add_def, cell_blk hb6]; rfl, _, Page.size_cells _, cells_at hx6 96, w7, hr7, rfl, ?_, ?_⟩
    · have := h6.setCache hu hm7 hf7
      have hfo : fileOf σ name = f := by simp [fileOf, hf]
      unfold writtenS
      rw [hpg, hfo]
      exact this
    · refine (((Fr.pu hP5 : Fr (· ∈ d.own) w w5).trans hfr fun i hi hlt => ?_).trans (Fr.pu hp6 : Fr (· ∈ d.own) w' w6) fun i hi _ => hi).trans hf7 fun i hi _ => by rw [show i = d.c u from hi]; exact d.mem_c hu
      rcases hi with hi | hi
      · exact hi
      · omega
end Go.Proofs.YtnigfiljenfgjaaGreat

/- The disk: the pages of a cache; flushing. -/
set_option maxRecDepth 100000
set_option linter.unusedVariables false
set_option linter.unusedSimpArgs false
namespace Go.Proofs.YtnigfiljenfgjaaGreat
open Go.Sh Go.RowKit
theorem info66 : (Tryz.prog.info? 92).map (fun i => (i.zero, i.size, i.bytes)) = some (some (.agg #[.string ⟨#[]⟩, .int .i64 0]), 2, 24) := by kernel_rfl
theorem u63 : Tryz.prog.underlying 119 = some (.slice 92) := by kernel_rfl
def placeCells (p : Place) : List Value := [.string p.1, .int .i64 p.2]
def inPages (name : ByteArray) (at_ n : Int) (p : Place) : Bool := decide (p.1 = name /\ p.2 * 32 < at_ + n /\ at_ < (p.2 + 1) * 32)
def Near (σ : Sys) : Prop := ∀ u, u < 4 -> ∀ q ∈ σ.caches u, 0 <= q.1.2 /\ q.1.2 <= 1000000
theorem flat_len (ps : List Place) : (ps.flatMap placeCells).length = ps.length * 2 := by
  induction ps with
  | nil => rfl
  | cons p ps ih => simp [placeCells, ih]; omega
theorem pages_c {w : World} {d : Lay} {mu : Int} {σ : Sys} (h : SysAt w d mu σ) (hne : Near σ) {u : Nat} (hu : u < 4) (name : ByteArray) {at_ n : Int} (hat : 0 <= at_ /\ at_ <= 1000000) (hn : 0 <= n /\ n <= 1000000) (hlen : (σ.caches u).length <= 1000000) :
    Calls Tryz.prog 69 #[d.ptr, .int .i64 (u : Int), .string name, .int .i64 at_, .int .i64 n] w fun e w' => ∃ (l : SV) (ps : List Place), e = .returned (.slice l.a l.len l.cap) /\ RowAt w' 92 2 l (ps.flatMap placeCells) /\
      ps.Perm (((σ.caches u).map Prod.fst).filter (inPages name at_ n)) /\ Pu w w' /\ ∀ b ∈ blkOf l, w.heap.size <= b := by
  refine F69_calls _ _ name _ _ w _ ?_
  obtain ⟨w1, hr1, hi1, hp1, hs1⟩ := (h.ca u hu).range (t := 63) u48
  refine ⟨by omega, by omega, some (d.c u), h.cellC hu, _, w1, hr1, ?_⟩
  refine loopDown (σ.caches u).length (fun m s w' => ∃ (todo : List (Place × Page)) (done : List Place), todo.length = m /\ done.length + m = (σ.caches u).length /\ IterAt w' ekP evP w.heap.size (d.c u) (σ.caches u) todo /\ Pu w w' /\ w.heap.size < w'.heap.size /\
    (∀ q ∈ todo, q ∈ σ.caches u) /\ (done ++ todo.map Prod.fst).Perm ((σ.caches u).map Prod.fst) /\ RowAt w' 92 2 s ((done.filter (inPages name at_ n)).flatMap placeCells) /\ (∀ b ∈ blkOf s, w.heap.size < b))
    ⟨σ.caches u, [], rfl, by simp, hi1, hp1, by omega, fun q hq => hq, List.Perm.refl _, RowAt.nil _ _ _, by simp [blkOf]⟩ ?_
  rintro m J s w' ⟨todo, done, hm, hdl, hit, hp, hlt, htodo, hperm, hrow, hblk⟩ hJ
  rcases hit.next (P := Tryz.prog) 0 with ⟨hnil, hr⟩ | ⟨p, hpm, w2, hr, hf2, hs2, hit2, hen⟩
  · refine .inl ⟨w', hr, s, done.filter (inPages name at_ n), rfl, hrow, ?_, hp, fun b hb => Nat.le_of_lt (hblk b hb)⟩
    subst hnil
    simp only [List.map_nil, List.append_nil] at hperm
    exact hperm.filter _
  · refine .inr ⟨_, _, w2, hr, _, _, w2, hen, ?_⟩
    obtain ⟨⟨nm, q⟩, pg⟩ := p
    have hq := hne u hu _ (htodo _ hpm)
    simp only at hq
    have hP2 : Pu w w2 := hp.andNew hf2 fun i hi => by omega
    show dAgg (.agg #[.string nm, .int .i64 q]) _
    simp only [dAgg_mk, dHd_mk, dStr_mk, dInt_mk, dNil_mk]
    refine alE_intro fun w3 hw3 => ?_
    have hp3 : Pu w2 w3 := by rw [hw3]; exact Pu.alloc w2 _
    have hb3 : w3.heap[w2.heap.size]? = some (.cells #[.string ⟨#[]⟩, .int .i64 0] 92) := by rw [hw3]; exact alloc_new w2 _
    refine stA_fill hb3 (by rw [size66]; rfl) rfl rfl fun w4 hb4 hf4 hs4 => ?_
    have hP24 : Pu w2 w4 := hp3.andNew hf4 fun i hi => by omega
    have hs3 : w3.heap.size = w2.heap.size + 1 := by rw [hw3]; simp
    have hit4 : IterAt w4 ekP evP w.heap.size (d.c u) (σ.caches u) (AL.del todo (nm, q)) := hit2.fr (Fr.pu hP24 : Fr (fun _ => False) w2 w4) (fun h => h) (fun h => h)
    have hrow4 : RowAt w4 92 2 s ((done.filter (inPages name at_ n)).flatMap placeCells) := (hrow.fr hf2 fun b hb e => by have := hblk b hb; omega).pu hP24
    have hlen2 : (AL.del todo (nm, q)).length + 1 = todo.length := AL.length_del hpm hit.nodup
    have hperm' : ((done ++ [(nm, q)]) ++ (AL.del todo (nm, q)).map Prod.fst).Perm ((σ.caches u).map Prod.fst) := by
      refine List.Perm.trans ?_ hperm
      simp only [List.append_assoc]
      exact List.Perm.append_left done ((AL.perm_del hpm hit.nodup).map Prod.fst).symm
    have htodo' : ∀ x ∈ AL.del todo (nm, q), x ∈ σ.caches u := fun x hx => htodo x ((AL.perm_del hpm hit.nodup).mem_iff.2 (List.mem_cons_of_mem _ hx))
    have skip : inPages name at_ n (nm, q) = false -> J s w4 := fun hsk => by
      refine hJ (m - 1) _ _ (by omega) ⟨AL.del todo (nm, q), done ++ [(nm, q)], by omega, by simp; omega, hit4, hP2.trans hP24, by omega, htodo', hperm', ?_, hblk⟩
      rw [List.filter_append]; simp only [List.filter_cons, hsk]; simpa using hrow4
    refine ⟨nm, by rw [cell_blk hb4]; rfl, ?_⟩
    rw [toList_beq]
    refine Br.of (fun c1 => ?_) (fun c1 => skip (by simp [inPages, dfalse c1]))
    have c1 := dtrue c1
    refine ⟨q, by rw [add_def, cell_blk hb4]; rfl, ?_⟩
    rw [wrap_in (n := q * 32) (by omega) (by omega), wrap_in (n := at_ + n) (by omega) (by omega)]
    refine Br.of (fun c2 => ?_) (fun c2 => skip (by have := dfalse c2; simp only [inPages]; exact decide_eq_false fun hh => this hh.2.1))
    have c2 := dtrue c2
    refine ⟨q, by rw [add_def, cell_blk hb4]; rfl, ?_⟩
    rw [wrap_in (n := q + 1) (by omega) (by omega), wrap_in (n := (q + 1) * 32) (by omega) (by omega)]
    refine Br.of (fun c3 => ?_) (fun c3 => skip (by have := dfalse c3; simp only [inPages]; exact decide_eq_false fun hh => this hh.2.2))
    have c3 := dtrue c3
    have hin : inPages name at_ n (nm, q) = true := by simp only [inPages]; exact decide_eq_true ⟨c1, c2, c3⟩
    refine ⟨nm, by rw [add_def, cell_blk hb4]; rfl, q, by rw [add_def, cell_blk hb4]; rfl, ?_⟩
    refine alE_intro fun w5 hw5 => ?_
    have hp5 : Pu w4 w5 := by rw [hw5]; exact Pu.alloc w4 _
    have hb5 : w5.heap[w4.heap.size]? = some (.cells #[.string nm, .int .i64 q] 92) := by rw [hw5]; exact alloc_new w4 _
    obtain ⟨i, hi, hz, hsz, hby⟩ := info_parts info66
    have hdl2 : (done.filter (inPages name at_ n)).length <= done.length := List.length_filter_le _ _
    have hsl : s.len = (done.filter (inPages name at_ n)).length := by have := hrow4.1; rw [flat_len] at this; omega
    obtain ⟨s', w6, hra, hrow', hf6, hblk6, _⟩ := row_append (P := Tryz.prog) (ty := 119) u63 hi hz hsz (by rfl) (by decide) (hrow4.pu hp5) (a := ⟨w4.heap.size, 0, none⟩) (m := 1) (c := 1) (news := placeCells (nm, q)) (by simp [placeCells]) (fun j v hv => by
      rw [add_def, cell_blk hb5, Nat.zero_add]
      simpa [placeCells] using hv) (by simp [placeCells, Value.oneCell']) (by rw [hby]; omega)
    have hs5 : w5.heap.size = w4.heap.size + 1 := by rw [hw5]; simp
    refine ⟨s', w6, hra, hJ (m - 1) _ _ (by omega) ⟨AL.del todo (nm, q), done ++ [(nm, q)], by omega, by simp; omega, ?_, ?_, ?_, htodo', hperm', ?_, fun b hb => ?_⟩⟩
    · exact (hit4.fr (Fr.pu hp5 : Fr (fun _ => False) w4 w5) (fun h => h) (fun h => h)).fr hf6 (fun hb => by have := hblk _ hb; omega) (fun hb => by have := hblk _ hb; have := h.lt _ (d.mem_c hu); omega)
    · exact ((hP2.trans hP24).trans hp5).andNew hf6 fun b hb => Nat.le_of_lt (hblk b hb)
    · have := hf6.size; omega
    · rw [List.filter_append, List.flatMap_append]; simp only [List.filter_cons, hin, if_true]; simpa using hrow'
    · rcases hblk6 b hb with hb | hb
      · exact hblk b hb
      · omega
def wrAll (u : Nat) (name : ByteArray) : List Place -> Sys × Nat -> Sys × Nat
  | [], s => s
  | p :: ps, s => wrAll u name ps (writtenS s.1 u name p.2.toNat, s.2 + wrN (pageOf s.1 u p) 32)
theorem flat_get (ps : List Place) : ∀ {j : Nat} {p : Place}, ps[j]? = some p -> (ps.flatMap placeCells)[j * 2]? = some (.string p.1) /\ (ps.flatMap placeCells)[j * 2 + 1]? = some (.int .i64 p.2) := by
  induction ps with
  | nil => intro j p h; simp at h
  | cons q ps ih =>
    intro j p h
    cases j with
    | zero => simp at h; subst h; simp [placeCells]
    | succ j =>
      have h := ih (by simpa using h)
      simp only [List.flatMap_cons, placeCells, List.cons_append, List.nil_append]
      rw [show (j + 1) * 2 = j * 2 + 1 + 1 by omega]
      simpa using h
structure Good (σ : Sys) : Prop where
  small : Small σ
  near : Near σ
  cnt : ∀ u, u < 4 -> (σ.caches u).length <= 1000000
  file : ∀ u, u < 4 -> ∀ q ∈ σ.caches u, ∃ f, AL.get σ.files q.1.1 = some f /\ ∀ i, i < 32 -> (q.2.kn i = true ∨ q.2.di i = true) -> q.1.2.toNat * 32 + i < f.length
theorem AL.mem_put {κ ν : Type} [DecidableEq κ] {l : List (κ × ν)} {k : κ} {v : ν} {q : κ × ν} (h : q ∈ AL.put l k v) : q = (k, v) ∨ q ∈ l := by
  induction l with
  | nil => simp [AL.put] at h; exact .inl h
  | cons p l ih =>
    obtain ⟨a, b⟩ := p
    simp only [AL.put] at h
    by_cases e : a = k
    · simp only [e, if_true, List.mem_cons] at h
      rcases h with h | h
      · exact .inl h
      · exact .inr (List.mem_cons_of_mem _ h)
    · simp only [e, if_false, List.mem_cons] at h
      rcases h with h | h
      · exact .inr (by rw [h]; simp)
      · rcases ih h with h | h
        · exact .inl h
        · exact .inr (List.mem_cons_of_mem _ h)
theorem AL.get_isSome {κ ν : Type} [DecidableEq κ] {l : List (κ × ν)} {k : κ} (h : k ∈ l.map Prod.fst) : ∃ v, AL.get l k = some v := by
  cases hg : AL.get l k with
  | none => exact absurd h (AL.get_none.1 hg)
  | some v => exact ⟨v, rfl⟩
theorem Good.page {σ : Sys} (h : Good σ) {u : Nat} (hu : u < 4) {name : ByteArray} {kk : Nat} (hk : (name, (kk : Int)) ∈ (σ.caches u).map Prod.fst) :
    kk <= 1000000 /\ ∃ f, AL.get σ.files name = some f /\ f.length <= 1000000 /\ ∀ i, i < 32 -> ((pageOf σ u (name, (kk : Int))).kn i = true ∨ (pageOf σ u (name, (kk : Int))).di i = true) -> kk * 32 + i < f.length := by
  obtain ⟨pg, hg⟩ := AL.get_isSome hk
  have hm := AL.get_mem hg
  obtain ⟨f, hf, hfi⟩ := h.file u hu _ hm
  have hn := h.near u hu _ hm
  simp only at hn hf hfi
  refine ⟨by omega, f, hf, h.small _ _ hf, fun i hi hkd => ?_⟩
  simp only [pageOf, hg, Option.getD_some] at hkd
  have := hfi i hi hkd
  simpa using this
theorem Good.written {σ : Sys} (h : Good σ) {u : Nat} (hu : u < 4) {name : ByteArray} {kk : Nat} (hk : (name, (kk : Int)) ∈ (σ.caches u).map Prod.fst) : Good (writtenS σ u name kk) := by
  obtain ⟨h1, f, hf, hfl, hfi⟩ := h.page hu hk
  have hfo : fileOf σ name = f := by simp [fileOf, hf]
  obtain ⟨pg, hg⟩ := AL.get_isSome hk
  have hpg : pageOf σ u (name, (kk : Int)) = pg := by simp [pageOf, hg]
  have hfiles : ∀ x g, AL.get (writtenS σ u name kk).files x = some g -> ∃ g', AL.get σ.files x = some g' /\ g.length = g'.length := by
    intro x g hx
    simp only [writtenS, Sys.setCache, hfo, AL.get_put] at hx
    split at hx
    · rename_i e; subst e; cases hx; exact ⟨f, hf, wrF_len _ _ _ _⟩
    · exact ⟨g, hx, rfl⟩
  have hfiles' : ∀ x g, AL.get σ.files x = some g -> ∃ g', AL.get (writtenS σ u name kk).files x = some g' /\ g'.length = g.length := by
    intro x g hx
    simp only [writtenS, Sys.setCache, hfo, AL.get_put]
    split
    · rename_i e; subst e; rw [hf] at hx; cases hx; exact ⟨_, rfl, wrF_len _ _ _ _⟩
    · exact ⟨g, hx, rfl⟩
  have hmem : ∀ v, v < 4 -> ∀ q ∈ (writtenS σ u name kk).caches v, ∃ q' ∈ σ.caches v, q'.1 = q.1 /\ ∀ i, (q.2.kn i = true ∨ q.2.di i = true) -> (q'.2.kn i = true ∨ q'.2.di i = true) := by
    intro v hv q hq
    simp only [writtenS, Sys.setCache] at hq
    split at hq
    · rename_i e; subst e
      rcases AL.mem_put hq with h | h
      · refine ⟨((name, (kk : Int)), pg), AL.get_mem hg, by rw [h], fun i hi => ?_⟩
        rw [h, hpg] at hi
        rcases hi with hi | hi
        · exact .inl hi
        · simp only [clearTo] at hi
          split at hi
          · cases hi
          · exact .inr hi
      · exact ⟨q, h, rfl, fun i hi => hi⟩
    · exact ⟨q, hq, rfl, fun i hi => hi⟩
  refine ⟨fun x g hx => ?_, fun v hv q hq => ?_, fun v hv => ?_, fun v hv q hq => ?_⟩
  · obtain ⟨g', hg', he⟩ := hfiles x g hx; rw [he]; exact h.small _ _ hg'
  · obtain ⟨q', hq', he, _⟩ := hmem v hv q hq; rw [← he]; exact h.near v hv _ hq'
  · simp only [writtenS, Sys.setCache]
    split
    · rename_i e; subst e; rw [AL.length_put_old (by rw [hg]; simp)]; exact h.cnt _ hv
    · exact h.cnt v hv
  · obtain ⟨q', hq', he, hi⟩ := hmem v hv q hq
    obtain ⟨g, hg1, hg2⟩ := h.file v hv q' hq'
    obtain ⟨g', hg3, hg4⟩ := hfiles' _ _ hg1
    refine ⟨g', by rw [← he]; exact hg3, fun i hi' hkd => ?_⟩
    rw [← he, hg4]; exact hg2 i hi' (hi i hkd)
theorem written_keys {σ : Sys} {u : Nat} {name : ByteArray} {kk : Nat} (hk : (name, (kk : Int)) ∈ (σ.caches u).map Prod.fst) (v : Nat) : ((writtenS σ u name kk).caches v).map Prod.fst = (σ.caches v).map Prod.fst := by
  simp only [writtenS, Sys.setCache]
  split
  · rename_i e; subst e
    obtain ⟨pg, hg⟩ := AL.get_isSome hk
    obtain ⟨l1, l2, h1, h2⟩ := AL.put_split hg
    rw [h2, h1]; simp
  · rfl
theorem wrAll_snoc (u : Nat) (name : ByteArray) (p : Place) : ∀ (ps : List Place) (s : Sys × Nat), wrAll u name (ps ++ [p]) s = (writtenS (wrAll u name ps s).1 u name p.2.toNat, (wrAll u name ps s).2 + wrN (pageOf (wrAll u name ps s).1 u p) 32)
  | [], s => rfl
  | q :: ps, s => by simp only [List.cons_append, wrAll]; exact wrAll_snoc u name p ps _
theorem wrAll_good {u : Nat} (hu : u < 4) {name : ByteArray} {σ : Sys} (h : Good σ) : ∀ (ps : List Place) (n : Nat), (∀ p ∈ ps, p ∈ (σ.caches u).map Prod.fst /\ p.1 = name) -> Good (wrAll u name ps (σ, n)).1 /\ (∀ v, ((wrAll u name ps (σ, n)).1.caches v).map Prod.fst = (σ.caches v).map Prod.fst) /\ (wrAll u name ps (σ, n)).2 <= n + 32 * ps.length
  | [], n, _ => ⟨h, fun _ => rfl, by simp [wrAll]⟩
  | p :: ps, n, hp => by
    obtain ⟨hk, hnm⟩ := hp p (by simp)
    obtain ⟨nm, q⟩ := p
    have hnm : nm = name := hnm
    subst hnm
    obtain ⟨pg, hg⟩ := AL.get_isSome hk
    have hq := (h.near u hu _ (AL.get_mem hg)).1
    simp only at hq
    obtain ⟨kk, rfl⟩ := Int.eq_ofNat_of_zero_le hq
    have hG := h.written hu hk
    have hK := written_keys hk
    have := wrAll_good hu hG ps (n + wrN (pageOf σ u (nm, (kk : Int))) 32) fun p' hp' => ⟨by rw [hK]; exact (hp p' (by simp [hp'])).1, (hp p' (by simp [hp'])).2⟩
    have hle := wrN_le (pageOf σ u (nm, (kk : Int))) 32
    refine ⟨this.1, fun v => (this.2.1 v).trans (hK v), ?_⟩
    have h3 := this.2.2
    simp only [wrAll, Int.toNat_natCast, List.length_cons] at h3 ⊢
    omega
theorem flush_c {w : World} {d : Lay} {σ : Sys} (h : SysAt w d 0 σ) (hG : Good σ) (u : Int) (name : ByteArray) :
    Calls Tryz.prog 26 #[d.ptr, .int .i64 u, .string name] w fun e w' => ∃ n : Int, e = .returned (.tuple #[.int .i64 n, .int .i64 (enterC u name σ)]) /\
      ((enterC u name σ ≠ 0 /\ n = 0 /\ Left w w' d d σ) ∨ (enterC u name σ = 0 /\ ∃ ps : List Place, ps.Perm (((σ.caches u.toNat).map Prod.fst).filter (inPages name 0 65536)) /\ n = ((wrAll u.toNat name ps (σ, 0)).2 : Nat) /\ Left w w' d d (wrAll u.toNat name ps (σ, 0)).1)) := by
  refine F26_calls _ _ _ w _ ?_
  refine Calls.mono (enter_c h u name) ?_
  rintro e w2 ⟨rfl, h2, hf2⟩
  have hf2' : Fr (· ∈ d.own) w w2 := hf2.mono fun i hi _ => by rw [show i = d.S from hi]; exact mem_S d
  refine ⟨_, _, rfl, Br.of (fun he => ?_) (fun he => ?_)⟩
  · have he : enterC u name σ ≠ 0 := by simpa using he
    exact leave_left h2 hf2' fun w' hL _ => ⟨0, rfl, .inl ⟨he, rfl, hL⟩⟩
  · have he : enterC u name σ = 0 := by simpa using he
    obtain ⟨hu0, hu4, f, hf⟩ := enterC_zero he
    obtain ⟨un, rfl⟩ := Int.eq_ofNat_of_zero_le hu0
    have hun : un < 4 := by omega
    refine Calls.mono (pages_c h2 hG.near hun name (by omega) (by omega) (hG.cnt un hun)) ?_
    rintro e w3 ⟨l, ps, rfl, hrow, hperm, hp3, hblk⟩
    refine ⟨l, rfl, ?_⟩
    have hfl := flat_len ps
    have hl : l.len = ps.length := by have := hrow.1; omega
    rw [hl]
    have hps : ∀ p ∈ ps, p ∈ (σ.caches un).map Prod.fst /\ p.1 = name := fun p hp => by
      have := hperm.mem_iff.1 hp
      obtain ⟨h1, h2⟩ := List.mem_filter.1 this
      exact ⟨h1, (of_decide_eq_true h2).1⟩
    have hcnt : ps.length <= 1000000 := by
      have h1 := hperm.length_eq
      have h2 := List.length_filter_le (inPages name 0 65536) ((σ.caches un).map Prod.fst)
      have h3 := hG.cnt un hun
      simp at h2; omega
    refine loopUp ps.length (fun k t w' => t = ((((wrAll un name (ps.take k) (σ, 0)).2 : Nat) : Int), (k : Int)) /\ SysAt w' d 1 (wrAll un name (ps.take k) (σ, 0)).1 /\ RowAt w' 92 2 l (ps.flatMap placeCells) /\ Fr (· ∈ d.own) w w') ⟨rfl, h2.pu hp3, hrow, hf2'.trans (Fr.pu hp3 : Fr (· ∈ d.own) w2 w3) fun i hi _ => hi⟩ ?_
    rintro k J t w' hk ⟨rfl, hS, hrw, hfr⟩ hJ
    refine Br.of (fun hlt => ?_) (fun hge => ?_)
    · have hlt' : k < ps.length := by have := dtrue hlt; omega
      obtain ⟨p, hp⟩ : ∃ p, ps[k]? = some p := ⟨_, List.getElem?_eq_getElem hlt'⟩
      obtain ⟨g1, g2⟩ := flat_get ps hp
      obtain ⟨g, hga, hgc, hgb⟩ := hrw.base (fun e => by rw [e] at g1; simp at g1)
      have hpk := hps p (List.mem_of_getElem? hp)
      obtain ⟨nm, q⟩ := p
      have hnm : nm = name := hpk.2
      subst hnm
      obtain ⟨pg, hg⟩ := AL.get_isSome hpk.1
      have hq := (hG.near un hun _ (AL.get_mem hg)).1
      simp only at hq
      obtain ⟨kk, rfl⟩ := Int.eq_ofNat_of_zero_le hq
      obtain ⟨hGk, hKk, hNk⟩ := wrAll_good hun hG (ps.take k) 0 (name := nm) fun p' hp' => hps p' (List.mem_of_mem_take hp')
      refine ⟨⟨g, 0, none⟩, hga, by omega, by omega, nm, ?_, (kk : Int), ?_, ?_⟩
      · rw [add_def, add_def]; rw [← hgc (k * 2) _ g1]; congr 2; omega
      · rw [add_def, add_def]; rw [← hgc (k * 2 + 1) _ g2]; congr 2; omega
      refine alE_intro fun w4 hw4 => ?_
      have hp4 : Pu w' w4 := by rw [hw4]; exact Pu.alloc w' _
      have hb4 : w4.heap[w'.heap.size]? = some (.cells #[.string ⟨#[]⟩, .int .i64 0] 92) := by rw [hw4]; exact alloc_new w' _
      refine stA_fill hb4 (by rw [size66]; rfl) rfl rfl fun w5 hb5 hf5 hs5 => ?_
      have hP5 : Pu w' w5 := hp4.andNew hf5 fun i hi => by omega
      refine ⟨nm, by rw [add_def, cell_blk hb5]; rfl, (kk : Int), by rw [add_def, cell_blk hb5]; rfl, ?_⟩
      obtain ⟨b1, f', hf', hfl', hfi'⟩ := hGk.page hun (name := nm) (kk := kk) (by rw [hKk]; exact hpk.1)
      refine Calls.mono (written_c (hS.pu hP5) hun b1 hf' hfl' fun i hi hd => hfi' i hi (.inr hd)) ?_
      rintro e w6 ⟨rfl, h6, hf6⟩
      refine ⟨_, rfl, ?_⟩
      have hle := wrN_le (pageOf (wrAll un nm (ps.take k) (σ, 0)).1 un (nm, (kk : Int))) 32
      have htl : (ps.take k).length = k := by simp; omega
      rw [wrap_in (by omega) (by omega), wrap_in (by omega) (by omega)]
      have htk : ps.take (k + 1) = ps.take k ++ [(nm, (kk : Int))] := by rw [List.take_add_one, hp]; rfl
      have hle2 : w.heap.size <= w2.heap.size := hf2'.size
      refine hJ _ _ hlt' ⟨?_, ?_, ?_, ?_⟩
      · rw [htk, wrAll_snoc]; simp only [Prod.mk.injEq]; omega
      · rw [htk, wrAll_snoc]; simpa using h6
      · exact (hrw.pu hP5).fr hf6 fun b hb hbo => by have := hblk b hb; have := h2.lt b hbo; omega
      · exact (hfr.trans (Fr.pu hP5 : Fr (· ∈ d.own) w' w5) fun i hi _ => hi).trans hf6 fun i hi _ => hi
    · have hk : k = ps.length := by have := dfalse hge; omega
      subst hk
      rw [List.take_length] at hS ⊢
      refine leave_left hS hfr fun w' hL _ => ⟨_, by rw [he]; rfl, .inr ⟨he, ps, hperm, rfl, hL⟩⟩
end Go.Proofs.YtnigfiljenfgjaaGreat

/- The disk: shortening a cache; the length of a file. -/
set_option maxRecDepth 100000
set_option linter.unusedVariables false
set_option linter.unusedSimpArgs false
set_option linter.unusedSectionVars false
namespace Go.Proofs.YtnigfiljenfgjaaGreat
open Go.Sh Go.RowKit
def shortPg (a m : Nat) (pg : Page) : Page where
  b := fun j => if a <= j /\ j < m then 0 else pg.b j
  kn := fun j => if a <= j /\ j < m then false else pg.kn j
  di := fun j => if a <= j /\ j < m then false else pg.di j
theorem shortPg_zero (a : Nat) (pg : Page) : shortPg a a pg = pg := Page.ext' (fun j => by simp [shortPg]; omega) (fun j => by simp [shortPg]; omega) (fun j => by simp [shortPg]; omega)
theorem shortPg_step (a m : Nat) (pg : Page) (h : a <= m) : ({ b := upN (shortPg a m pg).b m 0, kn := upN (shortPg a m pg).kn m false, di := upN (shortPg a m pg).di m false } : Page) = shortPg a (m + 1) pg := by
  refine Page.ext' (fun j => ?_) (fun j => ?_) (fun j => ?_) <;> simp only [upN, shortPg]
  all_goals
    by_cases e : j = m
    · subst e; simp [h]
    · have : j < m + 1 ↔ j < m := by omega
      simp [e, this]
def shortA (n : Nat) (name : ByteArray) (q : Place × Page) : Option (Place × Page) :=
  if q.1.1 ≠ name ∨ (q.1.2 + 1) * 32 <= n then some q else if q.1.2 * 32 ≥ n then none else some (q.1, shortPg (n - q.1.2.toNat * 32) 32 q.2)
def shortS (σ : Sys) (u : Nat) (name : ByteArray) (n : Nat) : Sys := σ.setCache u ((σ.caches u).filterMap (shortA n name))
theorem shortA_key {n : Nat} {name : ByteArray} {q r : Place × Page} (h : shortA n name q = some r) : r.1 = q.1 := by
  unfold shortA at h
  split at h
  · cases h; rfl
  · split at h
    · cases h
    · cases h; rfl
theorem setCache_twice (σ : Sys) (u : Nat) (a b : List (Place × Page)) : (σ.setCache u a).setCache u b = σ.setCache u b := by
  simp only [Sys.setCache, Sys.mk.injEq, true_and, and_true]
  funext v; split <;> rfl
theorem setCache_self (σ : Sys) (u : Nat) : σ.setCache u (σ.caches u) = σ := by
  simp only [Sys.setCache]
  cases σ
  simp only [Sys.mk.injEq, true_and, and_true]
  funext v; split
  · rename_i e; rw [e]
  · rfl
theorem setCache_at (σ : Sys) (u : Nat) (a : List (Place × Page)) : (σ.setCache u a).caches u = a := by simp [Sys.setCache]
section
variable {κ ν : Type} [DecidableEq κ]
theorem fm_same {l : List (κ × ν)} {F F' : κ × ν -> Option (κ × ν)} (h : ∀ q ∈ l, F q = F' q) : l.filterMap F = l.filterMap F' := by
  induction l with
  | nil => rfl
  | cons q l ih => simp only [List.filterMap_cons, h q (by simp), ih fun x hx => h x (by simp [hx])]
theorem fm_put {l : List (κ × ν)} (hn : (l.map Prod.fst).Nodup) {F F' : κ × ν -> Option (κ × ν)} {k : κ} {a v : ν} (hm : (k, a) ∈ l) (h1 : F (k, a) = some (k, a)) (h2 : F' (k, a) = some (k, v)) (h3 : ∀ q ∈ l, q.1 ≠ k -> F q = F' q)
    (hk : ∀ q r, F q = some r -> r.1 = q.1) : AL.put (l.filterMap F) k v = l.filterMap F' := by
  induction l with
  | nil => cases hm
  | cons q l ih =>
    simp only [List.map_cons, List.nodup_cons] at hn
    by_cases e : q.1 = k
    · have hq : q = (k, a) := by
        rcases List.mem_cons.1 hm with h | h
        · exact h.symm
        · exact absurd (List.mem_map.2 ⟨_, h, rfl⟩) (by rw [e] at hn; exact hn.1)
      subst hq
      simp only [List.filterMap_cons, h1, h2, AL.put, if_true]
      congr 1
      exact fm_same fun x hx => h3 x (by simp [hx]) fun e' => hn.1 (List.mem_map.2 ⟨x, hx, e'⟩)
    · have hm' : (k, a) ∈ l := by
        rcases List.mem_cons.1 hm with h | h
        · exact absurd (by rw [← h]) e
        · exact h
      have hq := h3 q (by simp) e
      simp only [List.filterMap_cons, ← hq]
      have ih := ih hn.2 hm' fun x hx => h3 x (by simp [hx])
      cases hF : F q with
      | none => exact ih
      | some r =>
        have := hk q r hF
        obtain ⟨r1, r2⟩ := r
        simp only at this
        simp only [AL.put, this, if_neg e, ih]
theorem fm_del {l : List (κ × ν)} (hn : (l.map Prod.fst).Nodup) {F F' : κ × ν -> Option (κ × ν)} {k : κ} {a : ν} (hm : (k, a) ∈ l) (h1 : F (k, a) = some (k, a)) (h2 : F' (k, a) = none) (h3 : ∀ q ∈ l, q.1 ≠ k -> F q = F' q)
    (hk : ∀ q r, F q = some r -> r.1 = q.1) : AL.del (l.filterMap F) k = l.filterMap F' := by
  induction l with
  | nil => cases hm
  | cons q l ih =>
    simp only [List.map_cons, List.nodup_cons] at hn
    by_cases e : q.1 = k
    · have hq : q = (k, a) := by
        rcases List.mem_cons.1 hm with h | h
        · exact h.symm
        · exact absurd (List.mem_map.2 ⟨_, h, rfl⟩) (by rw [e] at hn; exact hn.1)
      subst hq
      simp only [List.filterMap_cons, h1, h2, AL.del, if_true]
      exact fm_same fun x hx => h3 x (by simp [hx]) fun e' => hn.1 (List.mem_map.2 ⟨x, hx, e'⟩)
    · have hm' : (k, a) ∈ l := by
        rcases List.mem_cons.1 hm with h | h
        · exact absurd (by rw [← h]) e
        · exact h
      have hq := h3 q (by simp) e
      simp only [List.filterMap_cons, ← hq]
      have ih := ih hn.2 hm' fun x hx => h3 x (by simp [hx])
      cases hF : F q with
      | none => exact ih
      | some r =>
        have := hk q r hF
        obtain ⟨r1, r2⟩ := r
        simp only at this
        simp only [AL.del, this, if_neg e, ih]
theorem AL.not_mem_del {l : List (κ × ν)} (h : (l.map Prod.fst).Nodup) (k : κ) : k ∉ (AL.del l k).map Prod.fst := AL.get_none.1 (by rw [AL.get_del h]; simp)
theorem AL.del_put (l : List (κ × ν)) (k : κ) (v : ν) (h : k ∈ l.map Prod.fst) : AL.del (AL.put l k v) k = AL.del l k := by
  induction l with
  | nil => cases h
  | cons q l ih =>
    obtain ⟨a, b⟩ := q
    by_cases e : a = k
    · simp [AL.put, AL.del, e]
    · simp only [List.map_cons, List.mem_cons] at h
      simp [AL.put, AL.del, e, ih (h.resolve_left fun h => e h.symm)]
end
theorem shorten_c {w : World} {d : Lay} {mu : Int} {σ : Sys} (h : SysAt w d mu σ) (hne : Near σ) {u : Nat} (hu : u < 4) (name : ByteArray) {n : Nat} (hn : n <= 1000000) :
    Calls Tryz.prog 67 #[d.ptr, .int .i64 (u : Int), .string name, .int .i64 (n : Int)] w fun e w' => e = .returned (.tuple #[]) /\ SysAt w' d mu (shortS σ u name n) /\ Fr (· ∈ d.own) w w' := by
  refine F67_calls _ _ name _ w _ ?_
  obtain ⟨w1, hr1, hi1, hp1, hs1⟩ := (h.ca u hu).range (t := 63) u48
  have hnd := (h.ca u hu).nodup
  refine ⟨by omega, by omega, some (d.c u), h.cellC hu, _, w1, hr1, ?_⟩
  refine loopDown (σ.caches u).length (fun m s w' => ∃ (todo cur : List (Place × Page)), todo.length = m /\ cur = (σ.caches u).filterMap (fun q : Place × Page => if (AL.get todo q.1).isSome then some q else shortA n name q) /\
    IterAt w' ekP evP w.heap.size (d.c u) cur todo /\ (∀ q ∈ todo, q ∈ σ.caches u) /\ SysAt w' d mu (σ.setCache u cur) /\ Fr (· ∈ d.own) w w' /\ w.heap.size < w'.heap.size)
    ⟨σ.caches u, σ.caches u, rfl, ?_, hi1, fun q hq => hq, by rw [setCache_self]; exact h.pu hp1, Fr.pu hp1, by omega⟩ ?_
  · rw [show (σ.caches u).filterMap (fun q : Place × Page => if (AL.get (σ.caches u) q.1).isSome then some q else shortA n name q) = (σ.caches u).filterMap some from fm_same fun q hq => by
      obtain ⟨v, hv⟩ := AL.get_isSome (List.mem_map.2 ⟨q, hq, rfl⟩)
      rw [hv]; rfl]
    simp
  rintro m J s w' ⟨todo, cur, hm, hcur, hit, htodo, hS, hfr, hlt⟩ hJ
  rcases hit.next (P := Tryz.prog) 0 with ⟨hnil, hr⟩ | ⟨p, hpm, w2, hr, hf2, hs2, hit2, hen⟩
  · refine .inl ⟨w', hr, rfl, ?_, hfr⟩
    subst hnil
    have : cur = (σ.caches u).filterMap (shortA n name) := by rw [hcur]; exact fm_same fun q _ => by simp [AL.get]
    rw [this] at hS; exact hS
  · refine .inr ⟨_, _, w2, hr, _, _, w2, hen, ?_⟩
    obtain ⟨⟨nm, q⟩, pg⟩ := p
    have hpl := htodo _ hpm
    have hq := hne u hu _ hpl
    simp only at hq
    obtain ⟨kk, rfl⟩ := Int.eq_ofNat_of_zero_le hq.1
    have hlen2 : (AL.del todo (nm, (kk : Int))).length + 1 = todo.length := AL.length_del hpm hit.nodup
    have hnt : (nm, (kk : Int)) ∉ (AL.del todo (nm, (kk : Int))).map Prod.fst := AL.not_mem_del hit.nodup _
    have hin : (nm, (kk : Int)) ∈ todo.map Prod.fst := List.mem_map.2 ⟨_, hpm, rfl⟩
    have htodo' : ∀ x ∈ AL.del todo (nm, (kk : Int)), x ∈ σ.caches u := fun x hx => htodo x ((AL.perm_del hpm hit.nodup).mem_iff.2 (List.mem_cons_of_mem _ hx))
    have hk1 : ∀ (q r : Place × Page), (if (AL.get todo q.1).isSome then some q else shortA n name q) = some r -> r.1 = q.1 := fun q r hqr => by
      split at hqr
      · cases hqr; rfl
      · exact shortA_key hqr
    have hoth : ∀ q ∈ σ.caches u, q.1 ≠ (nm, (kk : Int)) -> (if (AL.get todo q.1).isSome then some q else shortA n name q) = (if (AL.get (AL.del todo (nm, (kk : Int))) q.1).isSome then some q else shortA n name q) := fun q _ hne => by
      rw [AL.get_del hit.nodup, if_neg (Ne.symm hne)]
    have hF1 : (if (AL.get todo ((nm, (kk : Int)), pg).1).isSome then some ((nm, (kk : Int)), pg) else shortA n name ((nm, (kk : Int)), pg)) = some ((nm, (kk : Int)), pg) := by
      obtain ⟨v, hv⟩ := AL.get_isSome hin
      rw [hv]; rfl
    have hF2 : (if (AL.get (AL.del todo (nm, (kk : Int))) ((nm, (kk : Int)), pg).1).isSome then some ((nm, (kk : Int)), pg) else shortA n name ((nm, (kk : Int)), pg)) = shortA n name ((nm, (kk : Int)), pg) := by
      rw [AL.get_none.2 hnt]; rfl
    have hcm : (nm, (kk : Int)) ∈ cur.map Prod.fst := by
      rw [hcur]
      exact List.mem_map.2 ⟨((nm, (kk : Int)), pg), List.mem_filterMap.2 ⟨_, hpl, hF1⟩, rfl⟩
    have hS2 : SysAt w2 d mu (σ.setCache u cur) := hS.fr hf2 fun b hb e => by have := h.lt b hb; omega
    have hfr2 : Fr (· ∈ d.own) w w2 := hfr.trans hf2 fun i hi hlt => by omega
    show dAgg (.agg #[.string nm, .int .i64 (kk : Int)]) _
    simp only [dAgg_mk, dHd_mk, dStr_mk, dInt_mk, dNil_mk]
    show dRow (.agg pg.cells) _
    rw [dRow_mk]
    refine alE_intro fun w3 hw3 => alE_intro fun w4 hw4 => ?_
    have hp3 : Pu w2 w3 := by rw [hw3]; exact Pu.alloc w2 _
    have hp4 : Pu w3 w4 := by rw [hw4]; exact Pu.alloc w3 _
    have hb3 : w3.heap[w2.heap.size]? = some (.cells #[.string ⟨#[]⟩, .int .i64 0] 92) := by rw [hw3]; exact alloc_new w2 _
    have hb4 : w4.heap[w3.heap.size]? = some (.cells (zc Tryz.prog 89) 89) := by rw [hw4]; exact alloc_new w3 _
    have hs3 : w3.heap.size = w2.heap.size + 1 := by rw [hw3]; simp
    have hs4 : w4.heap.size = w2.heap.size + 2 := by rw [hw4]; simp [hs3]
    refine stA_fill (hp4.blk hb3) (by rw [size66]; rfl) rfl rfl fun w5 hb5 hf5 hs5 => ?_
    refine stA_fill (hf5.blk hb4 (by omega)) (by rw [Page.size_cells, size61]) (by rw [zero61, Page.size_cells, Page.size_cells]) (Page.one _) fun w6 hb6 hf6 hs6 => ?_
    have hP6 : Pu w2 w6 := ((hp3.trans hp4).andNew hf5 fun i hi => by omega).andNew hf6 fun i hi => by omega
    have hb56 : w6.heap[w2.heap.size]? = some (.cells #[.string nm, .int .i64 (kk : Int)] 92) := hf6.blk hb5 (by omega)
    have hit6 : IterAt w6 ekP evP w.heap.size (d.c u) cur (AL.del todo (nm, (kk : Int))) := hit2.fr (Fr.pu hP6 : Fr (fun _ => False) w2 w6) (fun h => h) (fun h => h)
    have hS6 := hS2.pu hP6
    have hfr6 : Fr (· ∈ d.own) w w6 := hfr2.trans (Fr.pu hP6 : Fr (· ∈ d.own) w2 w6) fun i hi _ => hi
    have skip : shortA n name ((nm, (kk : Int)), pg) = some ((nm, (kk : Int)), pg) -> J () w6 := fun hsk => by
      refine hJ (m - 1) _ _ (by omega) ⟨AL.del todo (nm, (kk : Int)), cur, by omega, ?_, hit6, htodo', hS6, hfr6, by omega⟩
      rw [hcur]
      refine fm_same fun q hq => ?_
      by_cases e : q.1 = (nm, (kk : Int))
      · have : q = ((nm, (kk : Int)), pg) := by
          have h1 := AL.get_of_mem hnd hpl
          have h2 : AL.get (σ.caches u) q.1 = some q.2 := AL.get_of_mem hnd hq
          rw [e, h1] at h2
          cases q; simp only [Option.some.injEq] at h2; simp only at e; rw [e, h2]
        rw [this, hF1, hF2, hsk]
      · exact hoth q hq e
    refine ⟨nm, by rw [cell_blk hb56]; rfl, ?_⟩
    rw [toList_beq]
    refine Br.of (fun c1 => skip ?_) (fun c1 => ?_)
    · have c1 : ¬ nm = name := by simpa using c1
      simp [shortA, c1]
    have c1 : nm = name := by simpa using c1
    refine ⟨(kk : Int), by rw [add_def, cell_blk hb56]; rfl, ?_⟩
    rw [wrap_in (n := (kk : Int) + 1) (by omega) (by omega), wrap_in (n := ((kk : Int) + 1) * 32) (by omega) (by omega)]
    refine Br.of (fun c2 => skip ?_) (fun c2 => ?_)
    · have c2 := dtrue c2
      simp [shortA, c2]
    have c2 := dfalse c2
    refine ⟨(kk : Int), by rw [add_def, cell_blk hb56]; rfl, ?_⟩
    rw [wrap_in (n := (kk : Int) * 32) (by omega) (by omega), wrap_in (n := (n : Int) - (kk : Int) * 32) (by omega) (by omega)]
    refine ⟨_, w6, max_run _ _ _ _ _ _, ?_⟩
    rw [show max 0 ((n : Int) - (kk : Int) * 32) = ((n - kk * 32 : Nat) : Int) by omega]
    generalize ha : n - kk * 32 = a
    have ha32 : a <= 32 := by omega
    -- the page's bytes are cleared
    refine loopUp (32 - a) (fun j t w7 => t = ((a + j : Nat) : Int) /\ w7.heap[w3.heap.size]? = some (.cells (shortPg a (a + j) pg).cells 89) /\ Fr (· = w3.heap.size) w6 w7) ⟨rfl, by rw [Nat.add_zero, shortPg_zero]; exact hb6, Fr.refl _ _⟩ ?_
    rintro j J2 t w7 hj ⟨rfl, hb7, hf7⟩ hJ2
    refine Br.of (fun hlt7 => ?_) (fun hge7 => ?_)
    · have hlt7' : a + j < 32 := by have := dtrue hlt7; omega
      refine ⟨by omega, by omega, ?_⟩
      rw [add_def, add_def]
      refine st1_intro hb7 (by rw [Page.size_cells]; omega) fun w8 hw8 hb8 => ?_
      refine ⟨by omega, by omega, ?_⟩
      rw [add_def, add_def]
      refine st1_intro hb8 (by simp [Page.size_cells]; omega) fun w9 hw9 hb9 => ?_
      refine ⟨by omega, by omega, ?_⟩
      rw [add_def]
      refine st1_intro hb9 (by simp [Page.size_cells]; omega) fun w10 hw10 hb10 => ?_
      have hf8 : Fr (· = w3.heap.size) w7 w8 := by rw [hw8]; exact Fr.cell w7 _ _ _
      have hf9 : Fr (· = w3.heap.size) w8 w9 := by rw [hw9]; exact Fr.cell w8 _ _ _
      have hf10 : Fr (· = w3.heap.size) w9 w10 := by rw [hw10]; exact Fr.cell w9 _ _ _
      rw [wrap_in (by omega) (by omega)]
      refine hJ2 _ _ (by omega) ⟨by omega, ?_, ((hf7.trans hf8 fun i hi _ => hi).trans hf9 fun i hi _ => hi).trans hf10 fun i hi _ => hi⟩
      have e1 : 0 + ((a + j : Nat) : Int).toNat * 1 = a + j := by omega
      have e2 : 0 + 32 + ((a + j : Nat) : Int).toNat * 1 = 32 + (a + j) := by omega
      have e3 : 0 + 64 + ((a + j : Nat) : Int).toNat * 1 = 64 + (a + j) := by omega
      rw [hb10, e1, e2, e3, Page.set_kn _ hlt7', Page.set_di _ hlt7', show Value.int .u8 0 = u8V 0 from rfl, Page.set_b _ hlt7', ← Nat.add_assoc, ← shortPg_step a (a + j) pg (by omega)]
    · have hj32 : a + j = 32 := by have := dfalse hge7; omega
      rw [hj32] at hb7
      refine dwE_intro fun w8 hp8 hh8 => ?_
      have hF8 : Fr (· = w3.heap.size) w6 w8 := hf7.trans (Fr.pu hp8 : Fr (· = w3.heap.size) w7 w8) fun i hi _ => hi
      have hb58 : w8.heap[w2.heap.size]? = some (.cells #[.string nm, .int .i64 (kk : Int)] 92) := hF8.blk hb56 (by omega)
      have hb8 := hp8.blk hb7
      have hown8 : ∀ b ∈ d.own, ¬ b = w3.heap.size := fun b hb => by have := h.lt b hb; omega
      have hS8 : SysAt w8 d mu (σ.setCache u cur) := hS6.fr hF8 hown8
      have hit8 : IterAt w8 ekP evP w.heap.size (d.c u) cur (AL.del todo (nm, (kk : Int))) := hit6.fr hF8 (by omega) (hown8 _ (d.mem_c hu))
      obtain ⟨w9, hr9, hit9, hf9, hs9⟩ := hit8.upd keysP u48 hnt hcm (shortPg a 32 pg)
      have hS9 := hS8.setCache hu hit9.map hf9
      rw [setCache_twice] at hS9
      have hnc : w2.heap.size ≠ d.c u := fun e => by have := h.lt _ (d.mem_c hu); omega
      have hb59 := hf9.blk hb58 hnc
      have hfr9 : Fr (· ∈ d.own) w w9 := (hfr6.trans hF8 fun i hi hlt => by omega).trans hf9 fun i hi _ => by rw [show i = d.c u from hi]; exact d.mem_c hu
      refine ⟨by omega, by omega, some (d.c u), hS8.cellC hu, nm, by rw [add_def, cell_blk hb58]; rfl, (kk : Int), by rw [add_def, cell_blk hb58]; rfl, _, Page.size_cells _, cells_at hb8 96, w9, hr9, (kk : Int), by rw [add_def, cell_blk hb59]; rfl, ?_⟩
      rw [wrap_in (n := (kk : Int) * 32) (by omega) (by omega)]
      refine Br.of (fun c3 => ?_) (fun c3 => ?_)
      · have c3 := dtrue c3
        have hA : shortA n name ((nm, (kk : Int)), pg) = none := by
          have h1 : ¬ (nm ≠ name ∨ ((kk : Int) + 1) * 32 <= (n : Int)) := fun h => h.elim (fun h => h c1) c2
          simp only [shortA]
          rw [if_neg h1, if_pos c3]
        refine dwE_intro fun w10 hp10 hh10 => ?_
        have hS10 := hS9.pu hp10
        have hit10 := hit9.fr (Fr.pu hp10 : Fr (fun _ => False) w9 w10) (fun h => h) (fun h => h)
        obtain ⟨w11, hr11, hit11, hf11, hs11⟩ := hit10.drop (r0 := 0) (tys := #[63, 92]) keysP rfl u48 hnt
        have hS11 := hS10.setCache hu hit11.map hf11
        rw [setCache_twice] at hS11
        have hb510 := hp10.blk hb59
        refine ⟨by omega, by omega, some (d.c u), hS10.cellC hu, nm, by rw [add_def, cell_blk hb510]; rfl, (kk : Int), by rw [add_def, cell_blk hb510]; rfl, w11, hr11, ?_⟩
        have e : AL.del (AL.put cur (nm, (kk : Int)) (shortPg a 32 pg)) (nm, (kk : Int)) = AL.del cur (nm, (kk : Int)) := AL.del_put _ _ _ hcm
        rw [e] at hit11 hS11
        refine hJ (m - 1) _ _ (by omega) ⟨AL.del todo (nm, (kk : Int)), _, by omega, ?_, hit11, htodo', hS11, (hfr9.trans (Fr.pu hp10 : Fr (· ∈ d.own) w9 w10) fun i hi _ => hi).trans hf11 fun i hi _ => by rw [show i = d.c u from hi]; exact d.mem_c hu, ?_⟩
        · rw [hcur]
          exact fm_del hnd hpl hF1 (by rw [hF2, hA]) hoth hk1
        · have := hp10.size; have := hf9.size; have := hF8.size; omega
      · have c3 := dfalse c3
        have hA : shortA n name ((nm, (kk : Int)), pg) = some ((nm, (kk : Int)), shortPg a 32 pg) := by
          have h1 : ¬ (nm ≠ name ∨ ((kk : Int) + 1) * 32 <= (n : Int)) := fun h => h.elim (fun h => h c1) c2
          simp only [shortA]
          rw [if_neg h1, if_neg c3, Int.toNat_natCast, ha]
        refine hJ (m - 1) _ _ (by omega) ⟨AL.del todo (nm, (kk : Int)), _, by omega, ?_, hit9, htodo', hS9, hfr9, ?_⟩
        · rw [hcur]
          exact fm_put hnd hpl hF1 (by rw [hF2, hA]) hoth hk1
        · have := hf9.size; have := hF8.size; omega
def resizeC (name : ByteArray) (n : Int) (σ : Sys) : Int := if enterC 0 name σ = 0 then (if n < 0 then 1 else if n > 65536 then 1 else 0) else enterC 0 name σ
def sized (f : List UInt8) (n : Nat) : List UInt8 := f.take n ++ List.replicate (n - f.length) 0
def shorts (σ : Sys) (name : ByteArray) (n : Nat) : Nat -> Sys
  | 0 => σ
  | u + 1 => shortS (shorts σ name n u) u name n
def resizeS (name : ByteArray) (n : Int) (σ : Sys) : Sys :=
  if resizeC name n σ = 0 then shorts { σ with files := AL.put σ.files name (sized (fileOf σ name) n.toNat) } name n.toNat 4 else σ
theorem shorts_near {σ : Sys} (h : Near σ) (name : ByteArray) (n : Nat) : ∀ u, Near (shorts σ name n u)
  | 0 => h
  | u + 1 => fun v hv q hq => by
    have ih := shorts_near h name n u
    simp only [shorts, shortS, Sys.setCache] at hq
    split at hq
    · rename_i e; subst e
      obtain ⟨q', hq', hA⟩ := List.mem_filterMap.1 hq
      rw [shortA_key hA]; exact ih v hv q' hq'
    · exact ih v hv q hq
theorem resize_c {w : World} {d : Lay} {σ : Sys} (h : SysAt w d 0 σ) (hsm : Small σ) (hne : Near σ) (name : ByteArray) (n : Int) :
    Calls Tryz.prog 24 #[d.ptr, .string name, .int .i64 n] w fun e w' => e = .returned (.int .i64 (resizeC name n σ)) /\ ∃ d', Left w w' d d' (resizeS name n σ) := by
  refine F24_calls _ _ _ w _ ?_
  refine Calls.mono (enter_c h 0 name) ?_
  rintro e w2 ⟨rfl, h2, hf2⟩
  have hf2' : Fr (· ∈ d.own) w w2 := hf2.mono fun i hi _ => by rw [show i = d.S from hi]; exact mem_S d
  have bad : ∀ m : Int, ∀ w3, resizeC name n σ = m -> m ≠ 0 -> SysAt w3 d 1 σ -> Fr (· ∈ d.own) w w3 -> runD Tryz.prog [leaveD d] w3 fun w' => Ending.returned (Value.int .i64 m) = .returned (.int .i64 (resizeC name n σ)) /\ ∃ d', Left w w' d d' (resizeS name n σ) := fun m w3 hm h0 h3 hf3 =>
    leave_left h3 hf3 fun w' hL _ => ⟨by rw [hm], d, by simp only [resizeS, hm, h0, if_false]; exact hL⟩
  refine ⟨_, _, rfl, Br.of (fun he => ?_) (fun he => ?_)⟩
  · have he : enterC 0 name σ ≠ 0 := by simpa using he
    exact bad _ w2 (by simp [resizeC, he]) he h2 hf2'
  · have he : enterC 0 name σ = 0 := by simpa using he
    obtain ⟨_, _, f, hf⟩ := enterC_zero he
    have hfo : fileOf σ name = f := by simp [fileOf, hf]
    have hfl := hsm name f hf
    refine Br.of (fun c1 => bad 1 w2 (by simp [resizeC, he, dtrue c1]) (by decide) h2 hf2') (fun c1 => Br.of (fun c2 => bad 1 w2 (by have := dtrue c2; have := dfalse c1; simp only [resizeC, he, if_true]; rw [if_neg this]; rw [if_pos (dtrue c2)]) (by decide) h2 hf2') (fun c2 => ?_))
    have c1 := dfalse c1
    have c2 := dfalse c2
    have hC : resizeC name n σ = 0 := by simp only [resizeC, he, if_true]; rw [if_neg c1, if_neg c2]
    obtain ⟨m, rfl⟩ := Int.eq_ofNat_of_zero_le (by omega : 0 <= n)
    obtain ⟨w3, hmk, hr3, hp3, hs3⟩ := makeBytes w2 m (by omega)
    have h3 := h2.pu hp3
    obtain ⟨s, hl3, hrs, hgs, hmem, hsl⟩ := look_file h3 hf
    have hlt2 : ∀ b ∈ d.own, b < w2.heap.size := h2.lt
    refine ⟨⟨some ⟨w2.heap.size, 0, none⟩, m, m⟩, w3, hmk, some d.M, h3.cellM, s, w3, hl3, ?_⟩
    obtain ⟨w4, hcp, hr4, hf4, hs4⟩ := row_copy (P := Tryz.prog) (dT := 36) (sT := 36) (ty := 3) u29 (by kernel_rfl) hr3 (by simp) hrs (fun v hv => by obtain ⟨x, _, rfl⟩ := List.mem_map.1 hv; rfl)
    have hnb : ∀ b ∈ d.own, ¬ b ∈ blkOf ⟨some ⟨w2.heap.size, 0, none⟩, m, m⟩ := fun b hb hx => by have := hlt2 b hb; simp [blkOf] at hx; omega
    have h4 := h3.fr hf4 hnb
    refine ⟨_, w4, hcp, some d.M, h4.cellM, ?_⟩
    obtain ⟨w5, hup, hm5, hf5, hs5⟩ := h4.mp.upd keysS u40 name ⟨some ⟨w2.heap.size, 0, none⟩, m, m⟩
    refine ⟨w5, hup, ?_⟩
    have hsz : (f.map u8V).take (min s.len m) ++ ((List.replicate m 0).map u8V).drop (min s.len m) = (sized f m).map u8V := by
      rw [hsl]
      simp only [sized, List.map_append, List.map_take, List.map_replicate, List.drop_replicate]
      by_cases e : f.length <= m
      · rw [Nat.min_eq_left e, List.take_of_length_le (by simp), List.take_of_length_le (by simp; exact e)]
      · rw [Nat.min_eq_right (by omega), show m - f.length = 0 by omega]; simp
    have hr4' : RowAt w4 5 1 ⟨some ⟨w2.heap.size, 0, none⟩, m, m⟩ ((sized f m).map u8V) := by rw [← hsz]; exact hr4
    have h5 := h4.setFile (s' := ⟨some ⟨w2.heap.size, 0, none⟩, m, m⟩) (b' := sized f m) hm5 hf5 hr4' (fun b hb hbo => hnb b hbo hb) (by simp [blkOf])
    have hF5 : Fr (· ∈ d.own) w w5 := ((hf2'.trans (Fr.pu hp3 : Fr (· ∈ d.own) w2 w3) fun i hi _ => hi).trans hf4 fun i hi hlt => by have := hf2'.size; simp [blkOf] at hi; omega).trans hf5 fun i hi _ => by rw [show i = d.M from hi]; exact mem_M d
    generalize hd' : ({ d with fs := AL.put d.fs name ⟨some ⟨w2.heap.size, 0, none⟩, m, m⟩ } : Lay) = d' at h5
    have hS' : d'.S = d.S := by rw [← hd']
    have hown' : ∀ b ∈ d'.own, b ∈ d.own ∨ w.heap.size <= b := fun b hb => by
      rw [← hd'] at hb
      rcases Lay.own_put b hb with h | h
      · exact .inl h
      · have := hf2'.size; simp [blkOf] at h; exact .inr (by omega)
    have hptr : d.ptr = d'.ptr := by simp [Lay.ptr, hS']
    have hlv : leaveD d = leaveD d' := by simp [leaveD, hptr]
    refine loopUp 4 (fun k t w' => t = (k : Int) /\ SysAt w' d' 1 (shorts { σ with files := AL.put σ.files name (sized f m) } name m k) /\ Fr (· ∈ d.own) w w') ⟨rfl, h5, hF5⟩ ?_
    rintro k J t w' hk ⟨rfl, hS, hfr⟩ hJ
    refine Br.of (fun hlt => ?_) (fun hge => ?_)
    · have hlt' : k < 4 := by have := dtrue hlt; omega
      show Calls Tryz.prog 67 #[d.ptr, .int .i64 (k : Int), .string name, .int .i64 (m : Int)] w' _
      rw [hptr]
      refine Calls.mono (shorten_c hS (shorts_near (σ := { σ with files := AL.put σ.files name (sized f m) }) hne name m k) hlt' name (by omega)) ?_
      rintro e w6 ⟨rfl, h6, hf6⟩
      refine ⟨rfl, ?_⟩
      rw [wrap_in (by omega) (by omega)]
      exact hJ _ _ hlt' ⟨by omega, h6, hfr.trans hf6 fun i hi hlt => (hown' i hi).elim id fun h => by omega⟩
    · have hk4 : k = 4 := by have := dfalse hge; omega
      subst hk4
      show runD Tryz.prog [leaveD d] w' _
      rw [hlv]
      refine leave_c hS fun w9 h9 hf9 _ => ⟨by rw [hC], d', ⟨?_, hfr.trans hf9 fun i hi _ => by rw [show i = d'.S from hi, hS']; exact mem_S d, hown', hS'⟩⟩
      simp only [resizeS, hC, if_true, hfo, Int.toNat_natCast]
      exact h9
end Go.Proofs.YtnigfiljenfgjaaGreat

/- The disk: locks. -/
set_option maxRecDepth 100000
set_option linter.unusedVariables false
set_option linter.unusedSimpArgs false
set_option linter.unusedSectionVars false
namespace Go.Proofs.YtnigfiljenfgjaaGreat
open Go.Sh Go.RowKit
def Lock.ok (l : Lock) : Prop := 0 <= l.at_ /\ l.at_ <= 131072 /\ 0 <= l.n /\ l.n <= 131072
def meetsB (name : ByteArray) (at_ n : Int) (l : Lock) : Bool := decide (l.name = name /\ l.at_ < at_ + n /\ at_ < l.at_ + l.n)
def Lock.val (l : Lock) : Value := .agg #[.int .i64 l.u, .string l.name, .int .i64 l.at_, .int .i64 l.n]
theorem meets_c (w : World) (l : Lock) (hl : l.ok) (name : ByteArray) {at_ n : Int} (ha : 0 <= at_ /\ at_ <= 131072) (hn : 0 <= n /\ n <= 131072) :
    Calls Tryz.prog 72 #[l.val, .string name, .int .i64 at_, .int .i64 n] w fun e w' => e = .returned (.bool (meetsB name at_ n l)) /\ Pu w w' := by
  obtain ⟨h1, h2, h3, h4⟩ := hl
  refine F72_calls _ _ _ _ _ _ _ w _ ?_
  refine alE_intro fun w1 hw1 => ?_
  have hp1 : Pu w w1 := by rw [hw1]; exact Pu.alloc w _
  have hb1 : w1.heap[w.heap.size]? = some (.cells #[.int .i64 l.u, .string l.name, .int .i64 l.at_, .int .i64 l.n] 95) := by rw [hw1]; exact alloc_new w _
  refine ⟨l.name, by rw [add_def, cell_blk hb1]; rfl, ?_⟩
  rw [toList_beq]
  refine Br.of (fun c1 => ?_) (fun c1 => ⟨by simp [meetsB, dfalse c1], hp1⟩)
  have c1 := dtrue c1
  refine ⟨l.at_, by rw [add_def, cell_blk hb1]; rfl, ?_⟩
  rw [wrap_in (n := at_ + n) (by omega) (by omega)]
  refine Br.of (fun c2 => ?_) (fun c2 => ⟨by have := dfalse c2; rw [meetsB, decide_eq_false fun h => this h.2.1], hp1⟩)
  have c2 := dtrue c2
  refine ⟨l.at_, by rw [add_def, cell_blk hb1]; rfl, l.n, by rw [add_def, cell_blk hb1]; rfl, ?_, hp1⟩
  rw [wrap_in (n := l.at_ + l.n) (by omega) (by omega)]
  simp only [meetsB, c1, c2, true_and]
structure Tells (v : Value) (D : World -> Prop) (pred : Lock -> Bool) : Prop where
  ex : ∃ fn first cap, v = .func (.func fn) first cap /\ hasBody Tryz.prog fn = true /\ ∀ w (l : Lock), D w -> l.ok ->
    Calls Tryz.prog fn (first.toList ++ (([l.val] : List Value) ++ cap.toList)).toArray w fun e w' => e = .returned (.bool (pred l)) /\ Pu w w'
  stays : ∀ {w w'}, D w -> Pu w w' -> D w'
theorem tells_meets {r7 r8 r9 : Nat} {name : ByteArray} {at_ n : Int} (ha : 0 <= at_ /\ at_ <= 131072) (hn : 0 <= n /\ n <= 131072) :
    Tells (.func (.func 71) #[] #[.pointer (some ⟨r7, 0, none⟩), .pointer (some ⟨r8, 0, none⟩), .pointer (some ⟨r9, 0, none⟩)])
      (fun w => w.heap[r7]? = some (.cells #[.string name] 9) /\ w.heap[r8]? = some (.cells #[.int .i64 at_] 3) /\ w.heap[r9]? = some (.cells #[.int .i64 n] 3)) (meetsB name at_ n) where
  stays := fun h hp => ⟨hp.blk h.1, hp.blk h.2.1, hp.blk h.2.2⟩
  ex := by
    refine ⟨71, #[], _, rfl, by kernel_rfl, ?_⟩
    rintro w l ⟨h7, h8, h9⟩ hl
    refine F71_calls _ _ _ _ _ _ _ w _ ?_
    refine alE_intro fun w1 hw1 => ?_
    have hp1 : Pu w w1 := by rw [hw1]; exact Pu.alloc w _
    have hb1 : w1.heap[w.heap.size]? = some (.cells #[.int .i64 l.u, .string l.name, .int .i64 l.at_, .int .i64 l.n] 95) := by rw [hw1]; exact alloc_new w _
    refine ⟨l.u, by rw [add_def, cell_blk hb1]; rfl, l.name, by rw [add_def, cell_blk hb1]; rfl, l.at_, by rw [add_def, cell_blk hb1]; rfl, l.n, by rw [add_def, cell_blk hb1]; rfl,
      name, by rw [cell_blk (hp1.blk h7)]; rfl, at_, by rw [cell_blk (hp1.blk h8)]; rfl, n, by rw [cell_blk (hp1.blk h9)]; rfl, ?_⟩
    refine Calls.mono (meets_c w1 l hl name ha hn) ?_
    rintro e w2 ⟨rfl, hp2⟩
    exact ⟨_, rfl, rfl, hp1.trans hp2⟩
theorem tells_mine {r6 r7 r8 r9 r13 : Nat} {u : Int} {name : ByteArray} {at_ n : Int} (ha : 0 <= at_ /\ at_ <= 131072) (hn : 0 <= n /\ n <= 131072) :
    Tells (.func (.func 74) #[] #[.pointer (some ⟨r6, 0, none⟩), .pointer (some ⟨r13, 0, none⟩)])
      (fun w => w.heap[r6]? = some (.cells #[.int .i64 u] 3) /\ w.heap[r13]? = some (.cells #[.func (.func 71) #[] #[.pointer (some ⟨r7, 0, none⟩), .pointer (some ⟨r8, 0, none⟩), .pointer (some ⟨r9, 0, none⟩)]] 96) /\
        w.heap[r7]? = some (.cells #[.string name] 9) /\ w.heap[r8]? = some (.cells #[.int .i64 at_] 3) /\ w.heap[r9]? = some (.cells #[.int .i64 n] 3)) (fun l => decide (l.u = u) && meetsB name at_ n l) where
  stays := fun h hp => ⟨hp.blk h.1, hp.blk h.2.1, hp.blk h.2.2.1, hp.blk h.2.2.2.1, hp.blk h.2.2.2.2⟩
  ex := by
    refine ⟨74, #[], _, rfl, by kernel_rfl, ?_⟩
    rintro w l ⟨h6, h13, h789⟩ hl
    refine F74_calls _ _ _ _ _ _ w _ ?_
    refine alE_intro fun w1 hw1 => ?_
    have hp1 : Pu w w1 := by rw [hw1]; exact Pu.alloc w _
    have hb1 : w1.heap[w.heap.size]? = some (.cells #[.int .i64 l.u, .string l.name, .int .i64 l.at_, .int .i64 l.n] 95) := by rw [hw1]; exact alloc_new w _
    refine ⟨l.u, by rw [cell_blk hb1]; rfl, u, by rw [cell_blk (hp1.blk h6)]; rfl, ?_⟩
    refine Br.of (fun c1 => ?_) (fun c1 => ⟨by have : ¬ l.u = u := by simpa using c1
                                               simp [this], hp1⟩)
    have c1 : l.u = u := by simpa using c1
    obtain ⟨fn, first, cap, hv, hbd, hcl⟩ := (tells_meets (r7 := r7) (r8 := r8) (r9 := r9) (name := name) ha hn).ex
    cases hv
    refine ⟨.func (.func 71) #[] #[.pointer (some ⟨r7, 0, none⟩), .pointer (some ⟨r8, 0, none⟩), .pointer (some ⟨r9, 0, none⟩)], by rw [cell_blk (hp1.blk h13)]; rfl, l.u, by rw [add_def, cell_blk hb1]; rfl, l.name, by rw [add_def, cell_blk hb1]; rfl, l.at_, by rw [add_def, cell_blk hb1]; rfl, l.n, by rw [add_def, cell_blk hb1]; rfl, hbd, ?_⟩
    refine Calls.mono (hcl w1 l ⟨hp1.blk h789.1, hp1.blk h789.2.1, hp1.blk h789.2.2⟩ hl) ?_
    rintro e w2 ⟨rfl, hp2⟩
    exact ⟨_, rfl, by simp [c1], hp1.trans hp2⟩
theorem lock_get (ls : List Lock) : ∀ {j : Nat} {l : Lock}, ls[j]? = some l -> ∀ i v, l.cells[i]? = some v -> (ls.flatMap Lock.cells)[j * 4 + i]? = some v := by
  induction ls with
  | nil => intro j l h; simp at h
  | cons q ls ih =>
    intro j l h i v hv
    cases j with
    | zero =>
      simp at h; subst h
      simp only [List.flatMap_cons, Nat.zero_mul, Nat.zero_add]
      rw [List.getElem?_append_left (List.getElem?_eq_some_iff.1 hv).1]; exact hv
    | succ j =>
      have h := ih (by simpa using h) i v hv
      simp only [List.flatMap_cons]
      rw [List.getElem?_append_right (by simp [Lock.cells]; omega)]
      rw [show (j + 1) * 4 + i - q.cells.length = j * 4 + i by simp [Lock.cells]; omega]; exact h
theorem locks_len (ls : List Lock) : (ls.flatMap Lock.cells).length = ls.length * 4 := by
  induction ls with
  | nil => rfl
  | cons p ps ih => simp [Lock.cells, ih]; omega
theorem contains_c {w : World} {s : SV} {ls : List Lock} (hr : RowAt w 95 4 s (ls.flatMap Lock.cells)) (hok : ∀ l ∈ ls, l.ok) (hlen : ls.length <= 1000000) {v : Value} {D : World -> Prop} {pred : Lock -> Bool} (cl : Tells v D pred) (hD : D w) :
    Calls Tryz.prog 73 #[.slice s.a s.len s.cap, v] w fun e w' => e = .returned (.bool (ls.any pred)) /\ Pu w w' := by
  refine F73_calls s v w _ ?_
  have hsl : s.len = ls.length := by have := hr.1; rw [locks_len] at this; omega
  refine Calls.mono (R := fun e w' => ∃ n : Int, e = .returned (.int .i64 n) /\ decide (n ≥ 0) = ls.any pred /\ Pu w w') ?_ fun e w' ⟨n, h1, h2, h3⟩ => ⟨n, h1, by rw [← h2], h3⟩
  refine F98_calls s v w _ ?_
  obtain ⟨fn, first, cap, rfl, hbd, hcl⟩ := cl.ex
  refine loopUp ls.length (fun k t w' => t = (k : Int) /\ Pu w w' /\ ∀ j l, j < k -> ls[j]? = some l -> pred l = false) ⟨rfl, Pu.refl w, fun j l hj => by omega⟩ ?_
  rintro k J t w' hk ⟨rfl, hp, hall⟩ hJ
  rw [hsl]
  refine Br.of (fun hlt => ?_) (fun hge => ?_)
  · have hlt' : k < ls.length := by have := dtrue hlt; omega
    obtain ⟨l, hl⟩ : ∃ l, ls[k]? = some l := ⟨_, List.getElem?_eq_getElem hlt'⟩
    have hlm := List.mem_of_getElem? hl
    obtain ⟨g, hga, hgc, hgb⟩ := (hr.pu hp).base (fun e => by have := locks_len ls; rw [e] at this; simp at this; omega)
    have g0 := hgc _ _ (lock_get ls hl 0 _ rfl)
    have g1 := hgc _ _ (lock_get ls hl 1 _ rfl)
    have g2 := hgc _ _ (lock_get ls hl 2 _ rfl)
    have g3 := hgc _ _ (lock_get ls hl 3 _ rfl)
    refine ⟨⟨g, 0, none⟩, hga, by omega, by omega, l.u, ?_, l.name, ?_, l.at_, ?_, l.n, ?_, hbd, ?_⟩
    · rw [add_def, add_def, ← g0]; congr 2; omega
    · rw [add_def, add_def, ← g1]; congr 2; omega
    · rw [add_def, add_def, ← g2]; congr 2; omega
    · rw [add_def, add_def, ← g3]; congr 2; omega
    refine Calls.mono (hcl w' l (cl.stays hD hp) (hok l hlm)) ?_
    rintro e w2 ⟨rfl, hp2⟩
    refine ⟨_, rfl, Br.of (fun hb => ?_) (fun hb => ?_)⟩
    · refine ⟨_, rfl, ?_, hp.trans hp2⟩
      rw [decide_eq_true (by omega)]
      exact (List.any_eq_true.2 ⟨l, hlm, hb⟩).symm
    · rw [wrap_in (by omega) (by omega)]
      refine hJ _ _ hlt' ⟨by omega, hp.trans hp2, fun j l' hj hl' => ?_⟩
      by_cases e : j = k
      · subst e; rw [hl] at hl'; cases hl'; exact hb
      · exact hall j l' (by omega) hl'
  · have hk' : k = ls.length := by have := dfalse hge; omega
    subst hk'
    refine ⟨-1, rfl, ?_, hp⟩
    rw [decide_eq_false (by decide)]
    symm
    rw [List.any_eq_false]
    intro l hl
    obtain ⟨j, hj, e⟩ := List.getElem_of_mem hl
    have := hall j l hj (by rw [List.getElem?_eq_getElem hj, e])
    simp [this]
theorem u50' : Tryz.prog.underlying 65 = some (.slice 95) := by kernel_rfl
theorem info70 : (Tryz.prog.info? 95).map (fun i => (i.zero, i.size, i.bytes)) = some (some (.agg #[.int .i64 0, .string ⟨#[]⟩, .int .i64 0, .int .i64 0]), 4, 40) := by kernel_rfl
def refreshP (f : List UInt8) (kk m : Nat) (p : Page) : Page := { p with b := fun j => if j < m /\ p.kn j = true /\ p.di j = false then f.getD (kk * 32 + j) 0 else p.b j }
theorem refreshP_zero (f : List UInt8) (kk : Nat) (p : Page) : refreshP f kk 0 p = p := Page.ext' (fun j => by simp [refreshP]) (fun _ => rfl) (fun _ => rfl)
theorem refreshP_step (f : List UInt8) (kk m : Nat) (p : Page) {x : UInt8} (hx : f[kk * 32 + m]? = some x) (hk : p.kn m = true) (hd : p.di m = false) : ({ (refreshP f kk m p) with b := upN (refreshP f kk m p).b m x } : Page) = refreshP f kk (m + 1) p := by
  refine Page.ext' (fun j => ?_) (fun _ => rfl) (fun _ => rfl)
  simp only [upN, refreshP]
  by_cases e : j = m
  · subst e; simp [hk, hd, hx, (List.getElem?_eq_some_iff.1 hx).2, (List.getElem?_eq_some_iff.1 hx).1]
  · have : j < m + 1 ↔ j < m := by omega
    simp [e, this]
theorem refreshP_skip (f : List UInt8) (kk m : Nat) (p : Page) (h : p.kn m = false ∨ p.di m = true) : refreshP f kk m p = refreshP f kk (m + 1) p := by
  refine Page.ext' (fun j => ?_) (fun _ => rfl) (fun _ => rfl)
  simp only [refreshP]
  by_cases e : j = m
  · subst e; rcases h with h | h <;> simp [h]
  · have : j < m + 1 ↔ j < m := by omega
    simp [this]
def refreshS (σ : Sys) (u : Nat) (name : ByteArray) (kk : Nat) : Sys := σ.setCache u (AL.put (σ.caches u) (name, (kk : Int)) (refreshP (fileOf σ name) kk 32 (pageOf σ u (name, (kk : Int)))))
def refAll (u : Nat) (name : ByteArray) : List Place -> Sys -> Sys
  | [], σ => σ
  | p :: ps, σ => refAll u name ps (refreshS σ u name p.2.toNat)
theorem refAll_snoc (u : Nat) (name : ByteArray) (p : Place) : ∀ (ps : List Place) (σ : Sys), refAll u name (ps ++ [p]) σ = refreshS (refAll u name ps σ) u name p.2.toNat
  | [], σ => rfl
  | q :: ps, σ => by simp only [List.cons_append, refAll]; exact refAll_snoc u name p ps _
theorem Good.refresh {σ : Sys} (h : Good σ) {u : Nat} (hu : u < 4) {name : ByteArray} {kk : Nat} (hk : (name, (kk : Int)) ∈ (σ.caches u).map Prod.fst) : Good (refreshS σ u name kk) /\ ∀ v, ((refreshS σ u name kk).caches v).map Prod.fst = (σ.caches v).map Prod.fst := by
  obtain ⟨pg, hg⟩ := AL.get_isSome hk
  have hpg : pageOf σ u (name, (kk : Int)) = pg := by simp [pageOf, hg]
  have hmem : ∀ v, v < 4 -> ∀ q ∈ (refreshS σ u name kk).caches v, ∃ q' ∈ σ.caches v, q'.1 = q.1 /\ q.2.kn = q'.2.kn /\ q.2.di = q'.2.di := by
    intro v hv q hq
    simp only [refreshS, Sys.setCache] at hq
    split at hq
    · rename_i e; subst e
      rcases AL.mem_put hq with h | h
      · exact ⟨((name, (kk : Int)), pg), AL.get_mem hg, by rw [h], by rw [h, hpg]; rfl, by rw [h, hpg]; rfl⟩
      · exact ⟨q, h, rfl, rfl, rfl⟩
    · exact ⟨q, hq, rfl, rfl, rfl⟩
  refine ⟨⟨fun x g hx => h.small x g hx, fun v hv q hq => ?_, fun v hv => ?_, fun v hv q hq => ?_⟩, fun v => ?_⟩
  · obtain ⟨q', hq', he, _⟩ := hmem v hv q hq; rw [← he]; exact h.near v hv _ hq'
  · simp only [refreshS, Sys.setCache]
    split
    · rename_i e; subst e; rw [AL.length_put_old (by rw [hg]; simp)]; exact h.cnt _ hv
    · exact h.cnt v hv
  · obtain ⟨q', hq', he, hk, hd⟩ := hmem v hv q hq
    obtain ⟨g, hg1, hg2⟩ := h.file v hv q' hq'
    refine ⟨g, by rw [← he]; exact hg1, fun i hi' hkd => ?_⟩
    rw [← he]; rw [hk, hd] at hkd; exact hg2 i hi' hkd
  · simp only [refreshS, Sys.setCache]
    split
    · rename_i e; subst e
      obtain ⟨l1, l2, h1, h2⟩ := AL.put_split hg
      rw [h2, h1]; simp
    · rfl
theorem refAll_good {u : Nat} (hu : u < 4) {name : ByteArray} {σ : Sys} (h : Good σ) : ∀ (ps : List Place), (∀ p ∈ ps, p ∈ (σ.caches u).map Prod.fst /\ p.1 = name) -> Good (refAll u name ps σ) /\ (∀ v, ((refAll u name ps σ).caches v).map Prod.fst = (σ.caches v).map Prod.fst) /\ (refAll u name ps σ).files = σ.files /\ (refAll u name ps σ).locks = σ.locks
  | [], _ => ⟨h, fun _ => rfl, rfl, rfl⟩
  | p :: ps, hp => by
    obtain ⟨hk, hnm⟩ := hp p (by simp)
    obtain ⟨nm, q⟩ := p
    have hnm : nm = name := hnm
    subst hnm
    obtain ⟨pg, hg⟩ := AL.get_isSome hk
    have hq := (h.near u hu _ (AL.get_mem hg)).1
    simp only at hq
    obtain ⟨kk, rfl⟩ := Int.eq_ofNat_of_zero_le hq
    obtain ⟨hG, hK⟩ := h.refresh hu hk
    have := refAll_good hu hG ps fun p' hp' => ⟨by rw [hK]; exact (hp p' (by simp [hp'])).1, (hp p' (by simp [hp'])).2⟩
    exact ⟨this.1, fun v => (this.2.1 v).trans (hK v), this.2.2.1, this.2.2.2⟩
theorem SysAt.setLocks {w w' : World} {d : Lay} {mu : Int} {σ : Sys} (h : SysAt w d mu σ) {ls' : SV} {locks' : List Lock} (hr : RowAt w' 95 4 ls' (locks'.flatMap Lock.cells)) (hf : Fr (fun b => b ∈ blkOf d.ls ∨ b = d.S) w w')
    (hS : w'.heap[d.S]? = some (.cells #[.int .i32 mu, .int .u32 0, .map (some d.M), .map (some (d.c 0)), .map (some (d.c 1)), .map (some (d.c 2)), .map (some (d.c 3)), .slice ls'.a ls'.len ls'.cap] 67))
    (hb : ∀ b ∈ blkOf ls', b ∈ blkOf d.ls ∨ b ∉ d.own) : SysAt w' { d with ls := ls' } mu { σ with locks := locks' } := by
  obtain ⟨n1, n2, n3, n4, n5⟩ := h.ne
  refine ⟨hS, h.mp.fr hf ?_, h.fl.fr hf fun p hp k hk => ?_, fun u hu => (h.ca u hu).fr hf ?_, hr, ?_⟩
  · rintro (hx | hx)
    · exact (n4 _ hx).2.1 rfl
    · exact n1 hx.symm
  · rintro (hx | hx)
    · exact (n4 _ hx).2.2.2 p hp hk
    · exact (n5 p hp k hk).1 hx
  · rintro (hx | hx)
    · exact (n4 _ hx).2.2.1 u hu rfl
    · exact (n2 u hu).1 hx.symm
  · have hnd := h.nd
    have hone : (blkOf ls').Nodup := by unfold blkOf; split <;> simp
    have hx : ∀ b ∈ blkOf ls', b ∈ d.S :: d.M :: d.c 0 :: d.c 1 :: d.c 2 :: d.c 3 :: d.fs.flatMap (fun p => blkOf p.2) -> False := fun b hb' hx => by
      rcases hb b hb' with h4 | h4
      · have n4b := n4 b h4
        simp only [List.mem_cons, List.mem_flatMap] at hx
        rcases hx with hx | hx | hx | hx | hx | hx | ⟨p, hp, hx⟩
        · exact n4b.1 hx
        · exact n4b.2.1 hx
        · exact n4b.2.2.1 0 (by omega) hx
        · exact n4b.2.2.1 1 (by omega) hx
        · exact n4b.2.2.1 2 (by omega) hx
        · exact n4b.2.2.1 3 (by omega) hx
        · exact n4b.2.2.2 p hp hx
      · refine h4 ?_
        simp only [Lay.own, List.mem_cons, List.mem_append] at hx ⊢
        rcases hx with hx | hx | hx | hx | hx | hx | hx <;> simp [hx]
    have hsub : (d.S :: d.M :: d.c 0 :: d.c 1 :: d.c 2 :: d.c 3 :: d.fs.flatMap (fun p => blkOf p.2)).Nodup := by
      refine List.Nodup.sublist ?_ hnd
      simp only [Lay.own]
      repeat' refine List.Sublist.cons_cons _ ?_
      exact List.sublist_append_right _ _
    have hperm : ({ d with ls := ls' } : Lay).own.Perm (blkOf ls' ++ (d.S :: d.M :: d.c 0 :: d.c 1 :: d.c 2 :: d.c 3 :: d.fs.flatMap (fun p => blkOf p.2))) := by
      simp only [Lay.own]
      rw [show d.S :: d.M :: d.c 0 :: d.c 1 :: d.c 2 :: d.c 3 :: (blkOf ls' ++ d.fs.flatMap (fun p => blkOf p.2)) = [d.S, d.M, d.c 0, d.c 1, d.c 2, d.c 3] ++ (blkOf ls' ++ d.fs.flatMap (fun p => blkOf p.2)) by rfl,
        show blkOf ls' ++ (d.S :: d.M :: d.c 0 :: d.c 1 :: d.c 2 :: d.c 3 :: d.fs.flatMap (fun p => blkOf p.2)) = blkOf ls' ++ ([d.S, d.M, d.c 0, d.c 1, d.c 2, d.c 3] ++ d.fs.flatMap (fun p => blkOf p.2)) by rfl, ← List.append_assoc, ← List.append_assoc]
      exact List.Perm.append_right _ List.perm_append_comm
    exact hperm.nodup_iff.2 (List.nodup_append.2 ⟨hone, hsub, fun a ha b hb' e => hx a ha (by rw [e]; exact hb')⟩)
end Go.Proofs.YtnigfiljenfgjaaGreat

/- The disk: taking a lock. -/
set_option maxRecDepth 100000
set_option linter.unusedVariables false
set_option linter.unusedSimpArgs false
set_option linter.unusedSectionVars false
namespace Go.Proofs.YtnigfiljenfgjaaGreat
open Go.Sh Go.RowKit
def LocksOk (σ : Sys) : Prop := (∀ l ∈ σ.locks, l.ok) /\ σ.locks.length <= 1000000
def lockC (u : Int) (name : ByteArray) (at_ n : Int) (σ : Sys) : Int :=
  if enterC u name σ = 0 then (if at_ < 0 then 1 else if n < 1 then 1 else if at_ > 131072 then 1 else if n > 131072 - at_ then 1 else
    if σ.locks.any (fun l => decide (l.u = u) && meetsB name at_ n l) then 5 else if σ.locks.any (meetsB name at_ n) then 12 else 0) else enterC u name σ
def locked (u : Int) (name : ByteArray) (at_ n : Int) (σ : Sys) : Sys := { σ with locks := σ.locks ++ [⟨u, name, at_, n⟩] }
theorem lock_c {w : World} {d : Lay} {σ : Sys} (h : SysAt w d 0 σ) (hG : Good σ) (hL : LocksOk σ) (u : Int) (name : ByteArray) (at_ n : Int) :
    Calls Tryz.prog 27 #[d.ptr, .int .i64 u, .string name, .int .i64 at_, .int .i64 n] w fun e w' => e = .returned (.int .i64 (lockC u name at_ n σ)) /\
      ((lockC u name at_ n σ ≠ 0 /\ Left w w' d d σ) ∨ (lockC u name at_ n σ = 0 /\ ∃ d' ps, ps.Perm (((σ.caches u.toNat).map Prod.fst).filter (inPages name at_ n)) /\ Left w w' d d' (refAll u.toNat name ps (locked u name at_ n σ)))) := by
  refine F27_calls _ _ _ _ _ w _ ?_
  refine alE_intro fun w1 hw1 => alE_intro fun w2 hw2 => alE_intro fun w3 hw3 => alE_intro fun w4 hw4 => ?_
  have hp1 : Pu w w1 := by rw [hw1]; exact Pu.alloc w _
  have hp2 : Pu w1 w2 := by rw [hw2]; exact Pu.alloc w1 _
  have hp3 : Pu w2 w3 := by rw [hw3]; exact Pu.alloc w2 _
  have hp4 : Pu w3 w4 := by rw [hw4]; exact Pu.alloc w3 _
  have hs1 : w1.heap.size = w.heap.size + 1 := by rw [hw1]; simp
  have hs2 : w2.heap.size = w.heap.size + 2 := by rw [hw2]; simp [hs1]
  have hs3 : w3.heap.size = w.heap.size + 3 := by rw [hw3]; simp [hs2]
  have hs4 : w4.heap.size = w.heap.size + 4 := by rw [hw4]; simp [hs3]
  have hP4 : Pu w w4 := ((hp1.trans hp2).trans hp3).trans hp4
  have hlt : ∀ b ∈ d.own, b < w.heap.size := h.lt
  -- the four variables
  let Box : World -> Prop := fun v => v.heap[w.heap.size]? = some (.cells #[.int .i64 u] 3) /\ v.heap[w1.heap.size]? = some (.cells #[.string name] 9) /\ v.heap[w2.heap.size]? = some (.cells #[.int .i64 at_] 3) /\ v.heap[w3.heap.size]? = some (.cells #[.int .i64 n] 3)
  have hB4 : Box w4 := ⟨hp4.blk (hp3.blk (hp2.blk (by rw [hw1]; exact alloc_new w _))), hp4.blk (hp3.blk (by rw [hw2]; exact alloc_new w1 _)), hp4.blk (by rw [hw3]; exact alloc_new w2 _), by rw [hw4]; exact alloc_new w3 _⟩
  have hBfr : ∀ {B : Nat -> Prop} {a b : World}, Box a -> Fr B a b -> (∀ k, B k -> k < w.heap.size ∨ w.heap.size + 4 <= k) -> Box b := fun {B a b} hb hf hB =>
    ⟨hf.blk hb.1 fun hx => by have := hB _ hx; omega, hf.blk hb.2.1 fun hx => by have := hB _ hx; omega, hf.blk hb.2.2.1 fun hx => by have := hB _ hx; omega, hf.blk hb.2.2.2 fun hx => by have := hB _ hx; omega⟩
  have hBpu : ∀ {a b : World}, Box a -> Pu a b -> Box b := fun {a b} hb hp => hBfr hb (Fr.pu hp : Fr (fun _ => False) a b) fun _ h => h.elim
  refine ⟨u, by rw [cell_blk hB4.1]; rfl, name, by rw [cell_blk hB4.2.1]; rfl, ?_⟩
  refine Calls.mono (enter_c (h.pu hP4) u name) ?_
  rintro e w5 ⟨rfl, h5, hf5⟩
  have hF5 : Fr (· ∈ d.own) w w5 := (Fr.pu hP4 : Fr (· ∈ d.own) w w4).trans hf5 fun i hi _ => by rw [show i = d.S from hi]; exact mem_S d
  have hB5 : Box w5 := hBfr hB4 hf5 fun k hk => .inl (by rw [show k = d.S from hk]; exact hlt _ (mem_S d))
  have bad : ∀ m : Int, ∀ w6, lockC u name at_ n σ = m -> m ≠ 0 -> SysAt w6 d 1 σ -> Fr (· ∈ d.own) w w6 -> runD Tryz.prog [leaveD d] w6 fun w' => Ending.returned (Value.int .i64 m) = .returned (.int .i64 (lockC u name at_ n σ)) /\
      ((lockC u name at_ n σ ≠ 0 /\ Left w w' d d σ) ∨ (lockC u name at_ n σ = 0 /\ ∃ d' ps, ps.Perm (((σ.caches u.toNat).map Prod.fst).filter (inPages name at_ n)) /\ Left w w' d d' (refAll u.toNat name ps (locked u name at_ n σ)))) := fun m w6 hm h0 h6 hf6 =>
    leave_left h6 hf6 fun w' hLf _ => ⟨by rw [hm], .inl ⟨by rw [hm]; exact h0, hLf⟩⟩
  refine ⟨_, _, rfl, Br.of (fun he => ?_) (fun he => ?_)⟩
  · have he : enterC u name σ ≠ 0 := by simpa using he
    exact bad _ w5 (by simp [lockC, he]) he h5 hF5
  have he : enterC u name σ = 0 := by simpa using he
  obtain ⟨hu0, hu4, f, hf⟩ := enterC_zero he
  have hfo : fileOf σ name = f := by simp [fileOf, hf]
  have hfl := hG.small name f hf
  obtain ⟨un, rfl⟩ := Int.eq_ofNat_of_zero_le hu0
  have hun : un < 4 := by omega
  have hC : ∀ m : Int, (if at_ < 0 then 1 else if n < 1 then 1 else if at_ > 131072 then 1 else if n > 131072 - at_ then 1 else
    if σ.locks.any (fun l => decide (l.u = (un : Int)) && meetsB name at_ n l) then 5 else if σ.locks.any (meetsB name at_ n) then 12 else 0) = m -> lockC (un : Int) name at_ n σ = m := fun m hm => by simp only [lockC, he, if_true]; exact hm
  refine ⟨at_, by rw [cell_blk hB5.2.2.1]; rfl, Br.of (fun c1 => bad 1 w5 (hC 1 (by rw [if_pos (dtrue c1)])) (by decide) h5 hF5) (fun c1 => ?_)⟩
  have c1 := dfalse c1
  refine ⟨n, by rw [cell_blk hB5.2.2.2]; rfl, Br.of (fun c2 => bad 1 w5 (hC 1 (by rw [if_neg c1, if_pos (dtrue c2)])) (by decide) h5 hF5) (fun c2 => ?_)⟩
  have c2 := dfalse c2
  refine ⟨at_, by rw [cell_blk hB5.2.2.1]; rfl, Br.of (fun c3 => bad 1 w5 (hC 1 (by rw [if_neg c1, if_neg c2, if_pos (dtrue c3)])) (by decide) h5 hF5) (fun c3 => ?_)⟩
  have c3 := dfalse c3
  refine ⟨n, by rw [cell_blk hB5.2.2.2]; rfl, at_, by rw [cell_blk hB5.2.2.1]; rfl, ?_⟩
  rw [wrap_in (n := (131072 : Int) - at_) (by omega) (by omega)]
  refine Br.of (fun c4 => bad 1 w5 (hC 1 (by rw [if_neg c1, if_neg c2, if_neg c3, if_pos (dtrue c4)])) (by decide) h5 hF5) (fun c4 => ?_)
  have c4 := dfalse c4
  have ha : 0 <= at_ /\ at_ <= 131072 := by omega
  have hn : 0 <= n /\ n <= 131072 := by omega
  refine alE_intro fun w6 hw6 => ?_
  have hp6 : Pu w5 w6 := by rw [hw6]; exact Pu.alloc w5 _
  have hb6 : w6.heap[w5.heap.size]? = some (.cells #[.nilFunc] 96) := by rw [hw6]; exact alloc_new w5 _
  have hs5 : w.heap.size + 4 <= w5.heap.size := by have := hf5.size; omega
  refine st1_intro hb6 (by decide) fun w7 hw7 hb7 => ?_
  have hf7 : Fr (· = w5.heap.size) w6 w7 := by rw [hw7]; exact Fr.cell w6 _ _ _
  have hP7 : Pu w5 w7 := hp6.andNew hf7 fun i hi => by omega
  have h7 := h5.pu hP7
  have hB7 := hBpu hB5 hP7
  have hF7 : Fr (· ∈ d.own) w w7 := hF5.trans (Fr.pu hP7 : Fr (· ∈ d.own) w5 w7) fun i hi _ => hi
  refine ⟨d.ls, h7.cellL, ?_⟩
  refine Calls.mono (contains_c h7.lk hL.1 hL.2 (tells_mine (u := (un : Int)) (r7 := w1.heap.size) (r8 := w2.heap.size) (r9 := w3.heap.size) ha hn) ⟨hB7.1, hb7, hB7.2.1, hB7.2.2.1, hB7.2.2.2⟩) ?_
  rintro e w8 ⟨rfl, hp8⟩
  have h8 := h7.pu hp8
  have hB8 := hBpu hB7 hp8
  have hF8 : Fr (· ∈ d.own) w w8 := hF7.trans (Fr.pu hp8 : Fr (· ∈ d.own) w7 w8) fun i hi _ => hi
  refine ⟨_, rfl, Br.of (fun c5 => bad 5 w8 (hC 5 (by rw [if_neg c1, if_neg c2, if_neg c3, if_neg c4, if_pos c5])) (by decide) h8 hF8) (fun c5 => ?_)⟩
  refine dwE_intro fun w9 hp9 hh9 => ?_
  have h9 := h8.pu hp9
  have hB9 := hBpu hB8 hp9
  have hb9 := hp9.blk (hp8.blk hb7)
  have hF9 : Fr (· ∈ d.own) w w9 := hF8.trans (Fr.pu hp9 : Fr (· ∈ d.own) w8 w9) fun i hi _ => hi
  refine ⟨d.ls, h9.cellL, .func (.func 71) #[] #[.pointer (some ⟨w1.heap.size, 0, none⟩), .pointer (some ⟨w2.heap.size, 0, none⟩), .pointer (some ⟨w3.heap.size, 0, none⟩)], by rw [cell_blk hb9]; rfl, ?_⟩
  refine Calls.mono (contains_c h9.lk hL.1 hL.2 (tells_meets (r7 := w1.heap.size) (r8 := w2.heap.size) (r9 := w3.heap.size) (name := name) ha hn) ⟨hB9.2.1, hB9.2.2.1, hB9.2.2.2⟩) ?_
  rintro e w10 ⟨rfl, hp10⟩
  have h10 := h9.pu hp10
  have hB10 := hBpu hB9 hp10
  have hF10 : Fr (· ∈ d.own) w w10 := hF9.trans (Fr.pu hp10 : Fr (· ∈ d.own) w9 w10) fun i hi _ => hi
  have c5' : ¬ σ.locks.any (fun l => decide (l.u = (un : Int)) && meetsB name at_ n l) = true := by rw [c5]; simp
  refine ⟨_, rfl, Br.of (fun c6 => bad 12 w10 (hC 12 (by rw [if_neg c1, if_neg c2, if_neg c3, if_neg c4, if_neg c5', if_pos c6])) (by decide) h10 hF10) (fun c6 => ?_)⟩
  have c6' : ¬ σ.locks.any (meetsB name at_ n) = true := by rw [c6]; simp
  have hC0 : lockC (un : Int) name at_ n σ = 0 := hC 0 (by rw [if_neg c1, if_neg c2, if_neg c3, if_neg c4, if_neg c5', if_neg c6'])
  refine dwE_intro fun w11 hp11 hh11 => ?_
  have h11 := h10.pu hp11
  have hB11 := hBpu hB10 hp11
  refine ⟨fun v => SysAt v d 1 σ /\ Box v, ⟨h11, hB11⟩, d.ls, fun v hv => hv.1.cellL, (un : Int), fun v hv => by rw [cell_blk hv.2.1]; rfl, name, fun v hv => by rw [cell_blk hv.2.2.1]; rfl, at_, fun v hv => by rw [cell_blk hv.2.2.2.1]; rfl, n, fun v hv => by rw [cell_blk hv.2.2.2.2]; rfl, ?_⟩
  refine alE_intro fun w12 hw12 => ?_
  have hp12 : Pu w11 w12 := by rw [hw12]; exact Pu.alloc w11 _
  have hb12 : w12.heap[w11.heap.size]? = some (.cells #[.int .i64 (un : Int), .string name, .int .i64 at_, .int .i64 n] 95) := by rw [hw12]; exact alloc_new w11 _
  have h12 := h11.pu hp12
  have hB12 := hBpu hB11 hp12
  refine ⟨⟨h12, hB12⟩, ?_⟩
  have hF12 : Fr (· ∈ d.own) w w12 := (hF10.trans (Fr.pu hp11 : Fr (· ∈ d.own) w10 w11) fun i hi _ => hi).trans (Fr.pu hp12 : Fr (· ∈ d.own) w11 w12) fun i hi _ => hi
  obtain ⟨i, hi, hz, hsz, hby⟩ := info_parts info70
  have hll : d.ls.len = σ.locks.length := by have := h12.lk.1; rw [locks_len] at this; omega
  have hL2 := hL.2
  obtain ⟨s', w13, hra, hrow', hf13, hblk13, hlen13⟩ := row_append (P := Tryz.prog) (ty := 65) u50' hi hz hsz (by rfl) (by decide) h12.lk (a := ⟨w11.heap.size, 0, none⟩) (m := 1) (c := 1) (news := (⟨(un : Int), name, at_, n⟩ : Lock).cells) (by rfl) (fun j v hv => by
      rw [add_def, cell_blk hb12, Nat.zero_add]
      simpa [Lock.cells] using hv) (by simp [Lock.cells, Value.oneCell']) (by rw [hby]; omega)
  refine ⟨s', w13, hra, ?_⟩
  obtain ⟨n1, n2, n3, n4, n5⟩ := h12.ne
  have hS13 := hf13.blk h12.st fun hb => (n4 _ hb).1 rfl
  have hlsown : ∀ b ∈ blkOf d.ls, b ∈ d.own := fun b hb => by simp only [Lay.own, List.mem_cons, List.mem_append]; exact .inr (.inr (.inr (.inr (.inr (.inr (.inl hb))))))
  have hB13 : Box w13 := hBfr hB12 hf13 fun k hk => .inl (hlt k (hlsown k hk))
  rw [ptrE_some, add_def]
  refine st1_intro hS13 (by simp) fun w14 hw14 hb14 => ?_
  have hf14 : Fr (· = d.S) w13 w14 := by rw [hw14]; exact Fr.cell w13 _ _ _
  have hS'S : d.S ∉ blkOf s' := fun hb => by
    rcases hblk13 _ hb with hb | hb
    · exact (n4 _ hb).1 rfl
    · have := hlt _ (mem_S d); have := hF12.size; omega
  have h14 : SysAt w14 { d with ls := s' } 1 (locked (un : Int) name at_ n σ) := by
    refine h12.setLocks (ls' := s') (locks' := σ.locks ++ [⟨(un : Int), name, at_, n⟩]) ?_ ((hf13.mono fun i hi _ => .inl hi).trans hf14 fun i hi _ => .inr hi) (by rw [hb14]; rfl) fun b hb => (hblk13 b hb).elim .inl fun hb' => .inr fun ho => by have := hlt b ho; have := hF12.size; omega
    rw [List.flatMap_append]
    refine RowAt.fr ?_ hf14 fun b hb e => hS'S (by rw [← show b = d.S from e]; exact hb)
    simpa using hrow'
  have hB14 : Box w14 := hBfr hB13 hf14 fun k hk => .inl (by rw [show k = d.S from hk]; exact hlt _ (mem_S d))
  have hF14 : Fr (· ∈ d.own) w w14 := (hF12.trans hf13 fun i hi _ => hlsown i hi).trans hf14 fun i hi _ => by rw [show i = d.S from hi]; exact mem_S d
  generalize hd' : ({ d with ls := s' } : Lay) = d' at h14
  have hS' : d'.S = d.S := by rw [← hd']
  have hown' : ∀ b ∈ d'.own, b ∈ d.own ∨ w.heap.size + 4 <= b := fun b hb => by
    rw [← hd'] at hb
    simp only [Lay.own, List.mem_cons, List.mem_append] at hb ⊢
    rcases hb with hb | hb | hb | hb | hb | hb | hb | hb
    · simp [hb]
    · simp [hb]
    · simp [hb]
    · simp [hb]
    · simp [hb]
    · simp [hb]
    · rcases hblk13 b hb with hb | hb
      · simp [hb]
      · exact .inr (by have := (hF10.trans (Fr.pu hp11 : Fr (· ∈ d.own) w10 w11) fun i hi _ => hi).size; have := hp12.size; have := hf5.size; have := hP7.size; have := hp8.size; have := hp9.size; have := hp10.size; have := hp11.size; omega)
    · simp [hb]
  have hptr : d.ptr = d'.ptr := by simp [Lay.ptr, hS']
  have hlv : leaveD d = leaveD d' := by simp [leaveD, hptr]
  have hG' : Good (locked (un : Int) name at_ n σ) := ⟨hG.small, hG.near, hG.cnt, hG.file⟩
  refine ⟨(un : Int), by rw [cell_blk hB14.1]; rfl, name, by rw [cell_blk hB14.2.1]; rfl, at_, by rw [cell_blk hB14.2.2.1]; rfl, n, by rw [cell_blk hB14.2.2.2]; rfl, ?_⟩
  show Calls Tryz.prog 69 #[d.ptr, .int .i64 (un : Int), .string name, .int .i64 at_, .int .i64 n] w14 _
  rw [hptr]
  refine Calls.mono (pages_c h14 hG'.near hun name (by omega) (by omega) (hG'.cnt un hun)) ?_
  rintro e w15 ⟨l, ps, rfl, hrow, hperm, hp15, hblk⟩
  refine ⟨l, rfl, ?_⟩
  have hflen := flat_len ps
  have hl : l.len = ps.length := by have := hrow.1; omega
  rw [hl]
  have hps : ∀ p ∈ ps, p ∈ ((locked (un : Int) name at_ n σ).caches un).map Prod.fst /\ p.1 = name := fun p hp => by
    obtain ⟨h1, h2⟩ := List.mem_filter.1 (hperm.mem_iff.1 hp)
    exact ⟨h1, (of_decide_eq_true h2).1⟩
  have hcnt : ps.length <= 1000000 := by
    have h1 := hperm.length_eq
    have h2 := List.length_filter_le (inPages name at_ n) (((locked (un : Int) name at_ n σ).caches un).map Prod.fst)
    have h3 := hG'.cnt un hun
    simp at h2; omega
  have hlt14 : ∀ b ∈ d'.own, b < w14.heap.size := h14.lt
  have hs14 : w.heap.size + 4 <= w14.heap.size := by have := hB14.2.2.2; have := blk_lt this; omega
  refine loopUp ps.length (fun k t w' => t = (k : Int) /\ SysAt w' d' 1 (refAll un name (ps.take k) (locked (un : Int) name at_ n σ)) /\ RowAt w' 92 2 l (ps.flatMap placeCells) /\ Box w' /\ Fr (· ∈ d.own) w w' /\ w14.heap.size <= w'.heap.size)
    ⟨rfl, h14.pu hp15, hrow, hBpu hB14 hp15, hF14.trans (Fr.pu hp15 : Fr (· ∈ d.own) w14 w15) fun i hi _ => hi, hp15.size⟩ ?_
  rintro k J t w' hk ⟨rfl, hS, hrw, hBx, hfr, hsz'⟩ hJ
  refine Br.of (fun hlt2 => ?_) (fun hge => ?_)
  · have hlt' : k < ps.length := by have := dtrue hlt2; omega
    obtain ⟨p, hp⟩ : ∃ p, ps[k]? = some p := ⟨_, List.getElem?_eq_getElem hlt'⟩
    obtain ⟨g1, g2⟩ := flat_get ps hp
    obtain ⟨g, hga, hgc, hgb⟩ := hrw.base (fun e => by rw [e] at g1; simp at g1)
    have hpk := hps p (List.mem_of_getElem? hp)
    obtain ⟨nm, q⟩ := p
    have hnm : nm = name := hpk.2
    obtain ⟨pg0, hg0⟩ := AL.get_isSome hpk.1
    have hq := (hG'.near un hun _ (AL.get_mem hg0)).1
    simp only at hq
    obtain ⟨kk, rfl⟩ := Int.eq_ofNat_of_zero_le hq
    obtain ⟨hGk, hKk, hFk, hLk⟩ := refAll_good hun hG' (ps.take k) (name := name) fun p' hp' => hps p' (List.mem_of_mem_take hp')
    generalize hσk : refAll un name (ps.take k) (locked (un : Int) name at_ n σ) = σk at hS hGk hKk hFk hLk
    rw [hnm] at g1 hp hpk
    obtain ⟨b1, f', hf', hfl', hfi'⟩ := hGk.page hun (name := name) (kk := kk) (by rw [hKk]; exact hpk.1)
    have hff : f' = f := by rw [hFk] at hf'; have : AL.get (locked (un : Int) name at_ n σ).files name = some f := hf; rw [this] at hf'; cases hf'; rfl
    subst hff
    have hfok : fileOf σk name = f' := by simp [fileOf, hf']
    generalize hpg : pageOf σk un (name, (kk : Int)) = pg at hfi'
    refine ⟨⟨g, 0, none⟩, hga, by omega, by omega, name, ?_, (kk : Int), ?_, ?_⟩
    · rw [add_def, add_def]; rw [← hgc (k * 2) _ g1]; congr 2; omega
    · rw [add_def, add_def]; rw [← hgc (k * 2 + 1) _ g2]; congr 2; omega
    refine alE_intro fun v1 hv1 => ?_
    have hq1 : Pu w' v1 := by rw [hv1]; exact Pu.alloc w' _
    have hbv1 : v1.heap[w'.heap.size]? = some (.cells #[.string ⟨#[]⟩, .int .i64 0] 92) := by rw [hv1]; exact alloc_new w' _
    refine stA_fill hbv1 (by rw [size66]; rfl) rfl rfl fun v2 hbv2 hfv2 hsv2 => ?_
    have hPv2 : Pu w' v2 := hq1.andNew hfv2 fun i hi => by omega
    have hsv1 : v1.heap.size = w'.heap.size + 1 := by rw [hv1]; simp
    refine dwE_intro fun v3 hpv3 hhv3 => ?_
    have hPv3 := hPv2.trans hpv3
    have hS3 := hS.pu hPv3
    have hB3 := hBpu hBx hPv3
    have hbv3 := hpv3.blk hbv2
    refine ⟨fun v => SysAt v d' 1 σk /\ Box v /\ v.heap[w'.heap.size]? = some (.cells #[.string name, .int .i64 (kk : Int)] 92), ⟨hS3, hB3, hbv3⟩, (un : Int), fun v hv => by rw [cell_blk hv.2.1.1]; rfl, by omega, by omega, some (d'.c un), fun v hv => ?_, name, fun v hv => by rw [add_def, cell_blk hv.2.2]; rfl, (kk : Int), fun v hv => by rw [add_def, cell_blk hv.2.2]; rfl, pg.cells, Page.size_cells _, fun v hv => ?_, ?_⟩
    · have := hv.1.cellC hun; rw [hS'] at this; simpa using this
    · have := look_page hv.1 hun (name, (kk : Int)); rw [hpg] at this; exact this
    refine alE_intro fun v4 hv4 => ?_
    have hq4 : Pu v3 v4 := by rw [hv4]; exact Pu.alloc v3 _
    have hbv4 : v4.heap[v3.heap.size]? = some (.cells (zc Tryz.prog 89) 89) := by rw [hv4]; exact alloc_new v3 _
    refine ⟨⟨hS3.pu hq4, hBpu hB3 hq4, hq4.blk hbv3⟩, ?_⟩
    refine stA_fill hbv4 (by rw [Page.size_cells, size61]) (by rw [zero61, Page.size_cells, Page.size_cells]) (Page.one _) fun v5 hbv5 hfv5 hsv5 => ?_
    have hPv5 : Pu w' v5 := (hPv3.trans hq4).andNew hfv5 fun i hi => by have := hPv3.size; omega
    have hS5 := hS.pu hPv5
    have hB5' := hBpu hBx hPv5
    have hs3' : w'.heap.size + 1 <= v3.heap.size := by have := hpv3.size; omega
    have hbv25 : v5.heap[w'.heap.size]? = some (.cells #[.string name, .int .i64 (kk : Int)] 92) := hfv5.blk (hq4.blk hbv3) (by omega)
    have hlt'' : ∀ b ∈ d'.own, b < w'.heap.size := hS.lt
    -- its known, clean bytes are read anew
    refine loopUp 32 (fun m t v6 => t = (m : Int) /\ v6.heap[v3.heap.size]? = some (.cells (refreshP f' kk m pg).cells 89) /\ Fr (· = v3.heap.size) v5 v6) ⟨rfl, by rw [refreshP_zero]; exact hbv5, Fr.refl _ _⟩ ?_
    rintro m J2 t v6 hm ⟨rfl, hbv6, hfv6⟩ hJ2
    have hS6 : SysAt v6 d' 1 σk := hS5.fr hfv6 fun b hb e => by have := hlt'' b hb; omega
    have hB6 : Box v6 := hBfr hB5' hfv6 fun k hk => .inr (by omega)
    have hbv26 : v6.heap[w'.heap.size]? = some (.cells #[.string name, .int .i64 (kk : Int)] 92) := hfv6.blk hbv25 (by omega)
    refine Br.of (fun hm1 => ?_) (fun hm1 => ?_)
    · have hm32 : m < 32 := by have := dtrue hm1; omega
      have skip : (pg.kn m = false ∨ pg.di m = true) -> J2 (IntKind.i64.wrap ((m : Int) + 1)) v6 := fun hsk => by
        rw [wrap_in (by omega) (by omega)]
        exact hJ2 _ _ hm32 ⟨by omega, by rw [hbv6, refreshP_skip _ _ _ _ hsk], hfv6⟩
      refine ⟨by omega, by omega, pg.kn m, by rw [add_def, add_def, cell_blk hbv6, show 0 + 32 + (m : Int).toNat * 1 = 32 + m by omega]; exact Page.get_kn _ hm32, Br.of (fun hkn => ?_) (fun hkn => skip (.inl hkn))⟩
      refine ⟨by omega, by omega, pg.di m, by rw [add_def, add_def, cell_blk hbv6, show 0 + 64 + (m : Int).toNat * 1 = 64 + m by omega]; exact Page.get_di _ hm32, Br.of (fun hdi => ?_) (fun hdi => skip (.inr (by simpa using hdi)))⟩
      have hdi : pg.di m = false := by simpa using hdi
      have hin := hfi' m hm32 (.inl hkn)
      refine dwE_intro fun v7 hpv7 hhv7 => ?_
      have hS7 := hS6.pu hpv7
      have hB7' := hBpu hB6 hpv7
      obtain ⟨s, hls, hrs, _, hmem, hsl⟩ := look_file hS7 hf'
      obtain ⟨x, hx⟩ : ∃ x, f'[kk * 32 + m]? = some x := ⟨_, List.getElem?_eq_getElem hin⟩
      obtain ⟨a, haa, hca, hba⟩ := hrs.cell (j := kk * 32 + m) (v := u8V x) (by rw [List.getElem?_map, hx]; rfl)
      refine ⟨some d'.M, by have := hS7.cellM; rw [hS'] at this; exact this, name, by rw [cell_blk hB7'.2.1]; rfl, s, hls, (kk : Int), by rw [add_def, cell_blk (hpv7.blk hbv26)]; rfl, a, haa, ?_⟩
      rw [wrap_in (n := (kk : Int) * 32) (by omega) (by omega), wrap_in (n := (kk : Int) * 32 + (m : Int)) (by omega) (by omega), hsl]
      refine ⟨by omega, by omega, _, by rw [show ((kk : Int) * 32 + (m : Int)).toNat * 1 = kk * 32 + m by omega]; exact hca, by omega, by omega, ?_⟩
      rw [add_def]
      refine st1_intro (hpv7.blk hbv6) (by rw [Page.size_cells]; omega) fun v8 hv8 hbv8 => ?_
      have hfv8 : Fr (· = v3.heap.size) v7 v8 := by rw [hv8]; exact Fr.cell v7 _ _ _
      rw [wrap_in (by omega) (by omega)]
      refine hJ2 _ _ hm32 ⟨by omega, ?_, (hfv6.trans (Fr.pu hpv7 : Fr (· = v3.heap.size) v6 v7) fun i hi _ => hi).trans hfv8 fun i hi _ => hi⟩
      rw [hbv8, show 0 + (m : Int).toNat * 1 = m by omega, show Value.int .u8 ((x.toNat : Nat) : Int) = u8V x from rfl, Page.set_b _ hm32, refreshP_step f' kk m pg hx hkn hdi]
    · have hm32 : m = 32 := by have := dfalse hm1; omega
      subst hm32
      refine dwE_intro fun v7 hpv7 hhv7 => ?_
      have hS7 := hS6.pu hpv7
      have hB7' := hBpu hB6 hpv7
      have hbv27 := hpv7.blk hbv26
      obtain ⟨v8, hr8, hm8, hf8', hs8⟩ := (hS7.ca un hun).upd keysP u48 (name, (kk : Int)) (refreshP f' kk 32 pg)
      have hS8 := hS7.setCache hun hm8 hf8'
      refine ⟨(un : Int), by rw [cell_blk hB7'.1]; rfl, by omega, by omega, some (d'.c un), by have := hS7.cellC hun; rw [hS'] at this; simpa using this, name, by rw [add_def, cell_blk hbv27]; rfl, (kk : Int), by rw [add_def, cell_blk hbv27]; rfl, _, Page.size_cells _, cells_at (hpv7.blk hbv6) 96, v8, hr8, ?_⟩
      show J _ _
      rw [wrap_in (by omega) (by omega)]
      have htk : ps.take (k + 1) = ps.take k ++ [(name, (kk : Int))] := by rw [List.take_add_one, hp]; rfl
      have hcown : d'.c un ∈ d'.own := d'.mem_c hun
      have hF58 : Fr (fun b => b = v3.heap.size ∨ b = d'.c un) v5 v8 := ((hfv6.mono fun i hi _ => .inl hi).trans (Fr.pu hpv7 : Fr (fun b => b = v3.heap.size ∨ b = d'.c un) v6 v7) fun i hi _ => hi).trans hf8' fun i hi _ => .inr hi
      refine hJ _ _ hlt' ⟨by omega, ?_, ?_, ?_, ?_, ?_⟩
      · rw [htk, refAll_snoc, hσk]
        simp only [refreshS, Int.toNat_natCast, hfok, hpg]
        exact hS8
      · refine (hrw.pu hPv5).fr hF58 fun b hb => ?_
        have := hblk b hb
        have := hrw.lt b hb
        rintro (hx | hx)
        · omega
        · have := hlt14 _ hcown; omega
      · refine hBfr hB5' hF58 fun b hb => ?_
        rcases hb with hb | hb
        · exact .inr (by omega)
        · rcases hown' _ hcown with ho | ho
          · exact .inl (by rw [hb]; exact hlt _ ho)
          · exact .inr (by omega)
      · refine (hfr.trans (Fr.pu hPv5 : Fr (· ∈ d.own) w' v5) fun i hi _ => hi).trans hF58 fun i hi hlt => ?_
        have := hfr.size
        rcases hi with hi | hi
        · omega
        · rcases hown' _ hcown with ho | ho
          · rw [hi]; exact ho
          · omega
      · have := hPv5.size; have := hF58.size; omega
  · have hk' : k = ps.length := by have := dfalse hge; omega
    subst hk'
    rw [List.take_length] at hS
    show runD Tryz.prog [leaveD d'] w' _
    refine leave_c hS fun w9 h9 hf9 _ => ⟨by rw [hC0], .inr ⟨hC0, d', ps, hperm, h9, hfr.trans hf9 fun i hi _ => by rw [show i = d'.S from hi, hS']; exact mem_S d, fun b hb => (hown' b hb).elim .inl fun h => .inr (by omega), hS'⟩⟩
end Go.Proofs.YtnigfiljenfgjaaGreat
