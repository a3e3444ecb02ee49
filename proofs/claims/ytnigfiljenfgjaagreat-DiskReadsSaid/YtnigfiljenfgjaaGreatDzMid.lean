import Derived.Test.YtnigfiljenfgjaaGreatDzCore
import Derived.Laws.BytesString
import Derived.Test.YtnigfiljenfgjaaGreatShSixteen
/- The disk: the pages of a cache; writing a page to the disk; flushing. -/
set_option maxRecDepth 100000
set_option linter.unusedVariables false
set_option linter.unusedSimpArgs false
namespace Go.Proofs.YtnigfiljenfgjaaGreat
open Go.Sh Go.RowKit

theorem AL.put_same {κ ν : Type} [DecidableEq κ] {l : List (κ × ν)} {k : κ} {v : ν} (h : AL.get l k = some v) : AL.put l k v = l := by
  induction l with
  | nil => simp [AL.get] at h
  | cons p l ih =>
    obtain ⟨a, b⟩ := p
    simp only [AL.get] at h
    by_cases e : a = k
    · simp [e] at h; simp [AL.put, e, h]
    · simp only [if_neg e] at h; simp [AL.put, e, ih h]
theorem AL.put_put {κ ν : Type} [DecidableEq κ] (l : List (κ × ν)) (k : κ) (v v' : ν) : AL.put (AL.put l k v) k v' = AL.put l k v' := by
  induction l with
  | nil => simp [AL.put]
  | cons p l ih =>
    obtain ⟨a, b⟩ := p
    by_cases e : a = k
    · simp [AL.put, e]
    · simp [AL.put, e, ih]

theorem FilesAt.split {w : World} {k : ByteArray} {s : SV} : ∀ {l1 l2 : List (ByteArray × SV)} {bs : List (ByteArray × List UInt8)}, FilesAt w (l1 ++ (k, s) :: l2) bs -> ∃ b1 b b2, bs = b1 ++ (k, b) :: b2 /\ FilesAt w l1 b1 /\ RowAt w 5 1 s (b.map u8V) /\ FilesAt w l2 b2
  | [], l2, [], h => h.elim
  | [], l2, (n, b) :: bs, ⟨h1, h2, h3⟩ => ⟨[], b, bs, by have h1 : k = n := h1; subst h1; rfl, trivial, h2, h3⟩
  | p :: l1, l2, [], h => h.elim
  | p :: l1, l2, q :: bs, ⟨h1, h2, h3⟩ => by
    obtain ⟨b1, b, b2, h4, h5, h6, h7⟩ := FilesAt.split h3
    exact ⟨q :: b1, b, b2, by rw [h4]; rfl, ⟨h1, h2, h5⟩, h6, h7⟩
theorem FilesAt.join {w : World} {k : ByteArray} {s : SV} {b : List UInt8} : ∀ {l1 l2 : List (ByteArray × SV)} {b1 b2 : List (ByteArray × List UInt8)}, FilesAt w l1 b1 -> RowAt w 5 1 s (b.map u8V) -> FilesAt w l2 b2 -> FilesAt w (l1 ++ (k, s) :: l2) (b1 ++ (k, b) :: b2)
  | [], l2, [], b2, _, h2, h3 => ⟨rfl, h2, h3⟩
  | [], l2, _ :: _, b2, h, _, _ => h.elim
  | _ :: _, l2, [], b2, h, _, _ => h.elim
  | p :: l1, l2, q :: b1, b2, ⟨h1, h2, h3⟩, h4, h5 => ⟨h1, h2, FilesAt.join h3 h4 h5⟩
theorem AL.put_append {κ ν : Type} [DecidableEq κ] {l1 l2 : List (κ × ν)} {k : κ} {v v' : ν} (h : k ∉ l1.map Prod.fst) : AL.put (l1 ++ (k, v) :: l2) k v' = l1 ++ (k, v') :: l2 := by
  induction l1 with
  | nil => simp [AL.put]
  | cons p l ih =>
    obtain ⟨a, b⟩ := p
    simp only [List.map_cons, List.mem_cons, not_or] at h
    simp [AL.put, Ne.symm h.1, ih h.2]
theorem FilesAt.keys {w : World} : ∀ {fs : List (ByteArray × SV)} {bs : List (ByteArray × List UInt8)}, FilesAt w fs bs -> fs.map Prod.fst = bs.map Prod.fst
  | [], [], _ => rfl
  | p :: fs, q :: bs, ⟨h1, _, h3⟩ => by simp [h1, FilesAt.keys h3]

theorem SysAt.setBytes {w w' : World} {d : Lay} {mu : Int} {σ : Sys} (h : SysAt w d mu σ) {name : ByteArray} {s : SV} {b' : List UInt8} (hg : AL.get d.fs name = some s) (hr : RowAt w' 5 1 s (b'.map u8V)) (hf : Fr (· ∈ blkOf s) w w') :
    SysAt w' d mu { σ with files := AL.put σ.files name b' } := by
  obtain ⟨n1, n2, n3, n4, n5⟩ := h.ne
  have hmem : (name, s) ∈ d.fs := AL.get_mem hg
  obtain ⟨m1, m2, m3⟩ : (∀ k ∈ blkOf s, k ≠ d.S) /\ (∀ k ∈ blkOf s, k ≠ d.M) /\ (∀ k ∈ blkOf s, ∀ u, u < 4 -> k ≠ d.c u) := ⟨fun k hk => (n5 _ hmem k hk).1, fun k hk => (n5 _ hmem k hk).2.1, fun k hk => (n5 _ hmem k hk).2.2⟩
  refine ⟨hf.blk h.st fun hb => m1 _ hb rfl, h.mp.fr hf fun hb => m2 _ hb rfl, ?_, fun u hu => (h.ca u hu).fr hf fun hb => m3 _ hb u hu rfl, h.lk.fr hf fun k hk hb => (n4 k hk).2.2.2 _ hmem hb, h.nd⟩
  obtain ⟨l1, l2, e1, e2⟩ := AL.put_split hg
  have hfl := h.fl
  have hk1 : name ∉ l1.map Prod.fst := by
    have := h.mp.nodup
    rw [e1] at this
    simp only [List.map_append, List.map_cons] at this
    have := (List.nodup_append.1 this).2.2
    exact fun hm => this name hm name (by simp) rfl
  have hdis : ∀ p ∈ l1 ++ l2, ∀ k ∈ blkOf p.2, k ∉ blkOf s := by
    have hn := h.nd
    simp only [Lay.own, List.nodup_cons] at hn
    have hn := (List.nodup_append.1 hn.2.2.2.2.2.2).2.1
    rw [e1] at hn
    simp only [List.flatMap_append, List.flatMap_cons] at hn
    obtain ⟨a1, a2, a3⟩ := List.nodup_append.1 hn
    obtain ⟨c1, c2, c3⟩ := List.nodup_append.1 a2
    intro p hp k hk hks
    rcases List.mem_append.1 hp with hp | hp
    · exact a3 k (List.mem_flatMap.2 ⟨p, hp, hk⟩) k (List.mem_append_left _ hks) rfl
    · exact c3 k hks k (List.mem_flatMap.2 ⟨p, hp, hk⟩) rfl
  rw [e1] at hfl ⊢
  obtain ⟨b1, b, b2, e3, f1, f2, f3⟩ := FilesAt.split hfl
  show FilesAt w' _ (AL.put σ.files name b')
  have hk2 : name ∉ b1.map Prod.fst := by rw [← f1.keys]; exact hk1
  rw [e3, AL.put_append hk2]
  exact FilesAt.join (f1.fr hf fun p hp => hdis p (List.mem_append_left _ hp)) hr (f3.fr hf fun p hp => hdis p (List.mem_append_right _ hp))

def wrF (pg : Page) (kk : Nat) (f : List UInt8) : Nat -> List UInt8
  | 0 => f
  | m + 1 => if pg.di m = true then (wrF pg kk f m).set (kk * 32 + m) (pg.b m) else wrF pg kk f m
def wrN (pg : Page) : Nat -> Nat
  | 0 => 0
  | m + 1 => if pg.di m = true then wrN pg m + 1 else wrN pg m
def clearTo (m : Nat) (pg : Page) : Page := { pg with di := fun j => if j < m then false else pg.di j }
theorem wrF_len (pg : Page) (kk : Nat) (f : List UInt8) (m : Nat) : (wrF pg kk f m).length = f.length := by
  induction m with
  | zero => rfl
  | succ m ih => simp only [wrF]; split <;> simp [ih]
theorem wrN_le (pg : Page) (m : Nat) : wrN pg m <= m := by
  induction m with
  | zero => exact Nat.le_refl _
  | succ m ih => simp only [wrN]; split <;> omega
theorem clearTo_zero (pg : Page) : clearTo 0 pg = pg := Page.ext' (fun _ => rfl) (fun _ => rfl) (fun j => by simp [clearTo])
theorem clearTo_di (pg : Page) (m : Nat) : (clearTo m pg).di m = pg.di m := by simp [clearTo]
theorem clearTo_step (pg : Page) (m : Nat) : ({ (clearTo m pg) with di := upN (clearTo m pg).di m false } : Page) = clearTo (m + 1) pg := Page.ext' (fun _ => rfl) (fun _ => rfl) (fun j => by
  simp only [upN, clearTo]
  by_cases e : j = m
  · subst e; simp
  · have : j < m + 1 ↔ j < m := by omega
    simp [e, this])
theorem clearTo_skip (pg : Page) (m : Nat) (h : pg.di m = false) : clearTo m pg = clearTo (m + 1) pg := Page.ext' (fun _ => rfl) (fun _ => rfl) (fun j => by
  simp only [clearTo]
  by_cases e : j = m
  · subst e; simp [h]
  · have : j < m + 1 ↔ j < m := by omega
    simp [this])
def writtenS (σ : Sys) (u : Nat) (name : ByteArray) (kk : Nat) : Sys :=
  ({ σ with files := AL.put σ.files name (wrF (pageOf σ u (name, (kk : Int))) kk (fileOf σ name) 32) } : Sys).setCache u (AL.put (σ.caches u) (name, (kk : Int)) (clearTo 32 (pageOf σ u (name, (kk : Int)))))

theorem written_c {w : World} {d : Lay} {mu : Int} {σ : Sys} (h : SysAt w d mu σ) {u : Nat} (hu : u < 4) {name : ByteArray} {kk : Nat} (hkk : kk <= 1000000) {f : List UInt8} (hf : AL.get σ.files name = some f) (hfl : f.length <= 1000000)
    (hdi : ∀ i, i < 32 -> (pageOf σ u (name, (kk : Int))).di i = true -> kk * 32 + i < f.length) :
    Calls Tryz.prog 70 #[d.ptr, .int .i64 (u : Int), ekP (name, (kk : Int))] w fun e w' => e = .returned (.int .i64 (wrN (pageOf σ u (name, (kk : Int))) 32 : Nat)) /\ SysAt w' d mu (writtenS σ u name kk) /\ Fr (· ∈ d.own) w w' := by
  refine F70_calls _ _ name (kk : Int) w _ ?_
  generalize hpg : pageOf σ u (name, (kk : Int)) = pg at hdi ⊢
  refine alE_intro fun w1 hw1 => dwE_intro fun w3 hp3 hh3 => ?_
  have hp1 : Pu w w1 := by rw [hw1]; exact Pu.alloc w _
  have hb1 : w1.heap[w.heap.size]? = some (.cells #[.string name, .int .i64 (kk : Int)] 92) := by rw [hw1]; exact alloc_new w _
  have hs1 : w1.heap.size = w.heap.size + 1 := by rw [hw1]; simp
  have hs3 : w3.heap.size = w.heap.size + 1 := by rw [hh3]; exact hs1
  have h3 : SysAt w3 d mu σ := h.pu (hp1.trans hp3)
  have hb13 := hp3.blk hb1
  refine ⟨fun w' => SysAt w' d mu σ /\ w'.heap[w.heap.size]? = some (.cells #[.string name, .int .i64 (kk : Int)] 92), ⟨h3, hb13⟩, ?_⟩
  refine ⟨by omega, by omega, some (d.c u), fun w' h' => h'.1.cellC hu, name, fun w' h' => ?_, (kk : Int), fun w' h' => ?_, pg.cells, Page.size_cells _, fun w' h' => by have := look_page h'.1 hu (name, (kk : Int)); rw [hpg] at this; exact this, ?_⟩
  · rw [add_def, cell_blk h'.2]; rfl
  · rw [add_def, cell_blk h'.2]; rfl
  refine alE_intro fun w4 hw4 => ?_
  have hp4 : Pu w3 w4 := by rw [hw4]; exact Pu.alloc w3 _
  have hs4 : w4.heap.size = w.heap.size + 2 := by rw [hw4]; simp [hs3]
  have hb4 : w4.heap[w3.heap.size]? = some (.cells (zc Tryz.prog 89) 89) := by rw [hw4]; exact alloc_new w3 _
  refine ⟨⟨h3.pu hp4, hp4.blk hb13⟩, ?_⟩
  refine stA_fill hb4 (by rw [Page.size_cells, size61]) (by rw [zero61, Page.size_cells, Page.size_cells]) (Page.one _) fun w5 hb5 hf5 hs5 => ?_
  have hP5 : Pu w w5 := ((hp1.trans hp3).trans hp4).andNew hf5 fun i hi => by omega
  have h5 := h.pu hP5
  have hb15 : w5.heap[w.heap.size]? = some (.cells #[.string name, .int .i64 (kk : Int)] 92) := hf5.blk (hp4.blk hb13) (by omega)
  refine loopUp 32 (fun k t w' => t = (((wrN pg k : Nat) : Int), (k : Int)) /\ SysAt w' d mu { σ with files := AL.put σ.files name (wrF pg kk f k) } /\ w'.heap[w3.heap.size]? = some (.cells (clearTo k pg).cells 89) /\ Fr (fun b => b ∈ d.own ∨ b = w3.heap.size) w5 w') ⟨rfl, ?_, by rw [clearTo_zero]; exact hb5, Fr.refl _ _⟩ ?_
  · simp only [wrF, AL.put_same hf]; exact h5
  rintro k J t w' hk ⟨rfl, hS, hbx, hfr⟩ hJ
  have hb1w : w'.heap[w.heap.size]? = some (.cells #[.string name, .int .i64 (kk : Int)] 92) := hfr.blk hb15 fun hb => by
    rcases hb with hb | hb
    · have := h.lt _ hb; omega
    · omega
  have hfk : AL.get (AL.put σ.files name (wrF pg kk f k)) name = some (wrF pg kk f k) := by rw [AL.get_put]; simp
  refine Br.of (fun hlt => ?_) (fun hge => ?_)
  · have hlt : k < 32 := by have := dtrue hlt; omega
    refine ⟨by omega, by omega, _, by rw [add_def, add_def, cell_blk hbx]; simpa using Page.get_di _ hlt, ?_⟩
    rw [clearTo_di]
    refine Br.of (fun hd => ?_) (fun hd => ?_)
    · refine dwE_intro fun w6 hp6 hh6 => ?_
      have h6 := hS.pu hp6
      obtain ⟨s, hl, hr, hgs, hmem, hsl⟩ := look_file h6 hfk
      have hb6 := hp6.blk hb1w
      have hx6 := hp6.blk hbx
      have hidx := hdi k hlt hd
      refine ⟨some d.M, h6.cellM, name, by rw [cell_blk hb6]; rfl, s, hl, (kk : Int), by rw [add_def, cell_blk hb6]; rfl, by omega, by omega, _, by rw [add_def, cell_blk hx6, show 0 + (k : Int).toNat * 1 = k by omega]; exact Page.get_b _ hlt, ?_⟩
      rw [wrap_in (n := (kk : Int) * 32) (by omega) (by omega), wrap_in (n := (kk : Int) * 32 + (k : Int)) (by omega) (by omega), hsl, wrF_len]
      have hbx' : (clearTo k pg).b k = pg.b k := rfl
      obtain ⟨a, ha, hst⟩ := hr.st1 (j := kk * 32 + k) (by simp [wrF_len]; omega) (u8V (pg.b k)) (K := fun w14 => 0 <= (k : Int) /\ (k : Int) < ((32 : Nat) : Int) /\ Sh.st1 (((⟨w3.heap.size, 0, none⟩ : Addr).add 64).add ((k : Int).toNat * 1)) (.bool false) w14 fun w16 =>
          J ((IntKind.i64.wrap (((wrN pg k : Nat) : Int) + 1)), (IntKind.i64.wrap ((k : Int) + 1))) w16) fun w7 hr7 hf7 hs7 => by
        refine ⟨by omega, by omega, ?_⟩
        have h7 := h6.setBytes (b' := (wrF pg kk f k).set (kk * 32 + k) (pg.b k)) hgs (by rw [List.map_set]; exact hr7) hf7
        have hn3 : w3.heap.size ∉ blkOf s := fun hb => by have := h.lt _ (Lay.mem_file hmem _ hb); omega
        rw [add_def, add_def]
        refine st1_intro (hf7.blk hx6 hn3) (by rw [Page.size_cells]; omega) fun w8 hw8 hb8 => ?_
        have hf8 : Fr (· = w3.heap.size) w7 w8 := by rw [hw8]; exact Fr.cell w7 _ _ _
        have hwn := wrN_le pg k
        rw [wrap_in (by omega) (by omega), wrap_in (by omega) (by omega)]
        refine hJ _ _ hlt ⟨by simp [wrN, hd], ?_, ?_, ?_⟩
        · have := h7.fr hf8 fun b hb e => by have := h.lt _ hb; omega
          simp only [AL.put_put] at this
          simp only [wrF, hd, if_true]
          exact this
        · rw [hb8, show 0 + 64 + (k : Int).toNat * 1 = 64 + k by omega, Page.set_di _ hlt, clearTo_step]
        · exact ((hfr.trans (Fr.pu hp6 : Fr (fun b => b ∈ d.own ∨ b = w3.heap.size) w' w6) fun i hi _ => hi).trans hf7 fun i hi _ => .inl (Lay.mem_file hmem _ hi)).trans hf8 fun i hi _ => .inr hi
      refine ⟨a, ha, by omega, by omega, ?_⟩
      rw [show ((kk : Int) * 32 + (k : Int)).toNat * 1 = kk * 32 + k by omega]
      exact hst
    · have hwn := wrN_le pg k
      rw [wrap_in (by omega) (by omega)]
      exact hJ _ _ hlt ⟨by simp [wrN, hd], by simp only [wrF, hd]; exact hS, by rw [hbx, clearTo_skip _ _ hd], hfr⟩
  · have hk32 : k = 32 := by have := dfalse hge; omega
    subst hk32
    refine dwE_intro fun w6 hp6 hh6 => ?_
    have h6 := hS.pu hp6
    have hb6 := hp6.blk hb1w
    have hx6 := hp6.blk hbx
    obtain ⟨w7, hr7, hm7, hf7, _⟩ := (h6.ca u hu).upd keysP u48 (name, (kk : Int)) (clearTo 32 pg)
    refine ⟨by omega, by omega, some (d.c u), h6.cellC hu, name, by rw [add_def, cell_blk hb6]; rfl, (kk : Int), by rw [add_def, cell_blk hb6]; rfl, _, Page.size_cells _, cells_at hx6 96, w7, hr7, rfl, ?_, ?_⟩
    · have := h6.setCache hu hm7 hf7
      have hfo : fileOf σ name = f := by simp [fileOf, hf]
      unfold writtenS
      rw [hpg, hfo]
      exact this
    · refine (((Fr.pu hP5 : Fr (· ∈ d.own) w w5).trans hfr fun i hi hlt => ?_).trans (Fr.pu hp6 : Fr (· ∈ d.own) w' w6) fun i hi _ => hi).trans hf7 fun i hi _ => by rw [show i = d.c u from hi]; exact d.mem_c hu
      rcases hi with hi | hi
      · exact hi
      · omega
end Go.Proofs.YtnigfiljenfgjaaGreat

/- The disk: the pages of a cache; flushing. -/
set_option maxRecDepth 100000
set_option linter.unusedVariables false
set_option linter.unusedSimpArgs false
namespace Go.Proofs.YtnigfiljenfgjaaGreat
open Go.Sh Go.RowKit

theorem info66 : (Tryz.prog.info? 92).map (fun i => (i.zero, i.size, i.bytes)) = some (some (.agg #[.string ⟨#[]⟩, .int .i64 0]), 2, 24) := by kernel_rfl
theorem u63 : Tryz.prog.underlying 119 = some (.slice 92) := by kernel_rfl
def placeCells (p : Place) : List Value := [.string p.1, .int .i64 p.2]
def inPages (name : ByteArray) (at_ n : Int) (p : Place) : Bool := decide (p.1 = name /\ p.2 * 32 < at_ + n /\ at_ < (p.2 + 1) * 32)
def Near (σ : Sys) : Prop := ∀ u, u < 4 -> ∀ q ∈ σ.caches u, 0 <= q.1.2 /\ q.1.2 <= 1000000

theorem flat_len (ps : List Place) : (ps.flatMap placeCells).length = ps.length * 2 := by
  induction ps with
  | nil => rfl
  | cons p ps ih => simp [placeCells, ih]; omega

theorem pages_c {w : World} {d : Lay} {mu : Int} {σ : Sys} (h : SysAt w d mu σ) (hne : Near σ) {u : Nat} (hu : u < 4) (name : ByteArray) {at_ n : Int} (hat : 0 <= at_ /\ at_ <= 1000000) (hn : 0 <= n /\ n <= 1000000) (hlen : (σ.caches u).length <= 1000000) :
    Calls Tryz.prog 69 #[d.ptr, .int .i64 (u : Int), .string name, .int .i64 at_, .int .i64 n] w fun e w' => ∃ (l : SV) (ps : List Place), e = .returned (.slice l.a l.len l.cap) /\ RowAt w' 92 2 l (ps.flatMap placeCells) /\
      ps.Perm (((σ.caches u).map Prod.fst).filter (inPages name at_ n)) /\ Pu w w' /\ ∀ b ∈ blkOf l, w.heap.size <= b := by
  refine F69_calls _ _ name _ _ w _ ?_
  obtain ⟨w1, hr1, hi1, hp1, hs1⟩ := (h.ca u hu).range (t := 63) u48
  refine ⟨by omega, by omega, some (d.c u), h.cellC hu, _, w1, hr1, ?_⟩
  refine loopDown (σ.caches u).length (fun m s w' => ∃ (todo : List (Place × Page)) (done : List Place), todo.length = m /\ done.length + m = (σ.caches u).length /\ IterAt w' ekP evP w.heap.size (d.c u) (σ.caches u) todo /\ Pu w w' /\ w.heap.size < w'.heap.size /\
    (∀ q ∈ todo, q ∈ σ.caches u) /\ (done ++ todo.map Prod.fst).Perm ((σ.caches u).map Prod.fst) /\ RowAt w' 92 2 s ((done.filter (inPages name at_ n)).flatMap placeCells) /\ (∀ b ∈ blkOf s, w.heap.size < b))
    ⟨σ.caches u, [], rfl, by simp, hi1, hp1, by omega, fun q hq => hq, List.Perm.refl _, RowAt.nil _ _ _, by simp [blkOf]⟩ ?_
  rintro m J s w' ⟨todo, done, hm, hdl, hit, hp, hlt, htodo, hperm, hrow, hblk⟩ hJ
  rcases hit.next (P := Tryz.prog) 0 with ⟨hnil, hr⟩ | ⟨p, hpm, w2, hr, hf2, hs2, hit2, hen⟩
  · refine .inl ⟨w', hr, s, done.filter (inPages name at_ n), rfl, hrow, ?_, hp, fun b hb => Nat.le_of_lt (hblk b hb)⟩
    subst hnil
    simp only [List.map_nil, List.append_nil] at hperm
    exact hperm.filter _
  · refine .inr ⟨_, _, w2, hr, _, _, w2, hen, ?_⟩
    obtain ⟨⟨nm, q⟩, pg⟩ := p
    have hq := hne u hu _ (htodo _ hpm)
    simp only at hq
    have hP2 : Pu w w2 := hp.andNew hf2 fun i hi => by omega
    show dAgg (.agg #[.string nm, .int .i64 q]) _
    simp only [dAgg_mk, dHd_mk, dStr_mk, dInt_mk, dNil_mk]
    refine alE_intro fun w3 hw3 => ?_
    have hp3 : Pu w2 w3 := by rw [hw3]; exact Pu.alloc w2 _
    have hb3 : w3.heap[w2.heap.size]? = some (.cells #[.string ⟨#[]⟩, .int .i64 0] 92) := by rw [hw3]; exact alloc_new w2 _
    refine stA_fill hb3 (by rw [size66]; rfl) rfl rfl fun w4 hb4 hf4 hs4 => ?_
    have hP24 : Pu w2 w4 := hp3.andNew hf4 fun i hi => by omega
    have hs3 : w3.heap.size = w2.heap.size + 1 := by rw [hw3]; simp
    have hit4 : IterAt w4 ekP evP w.heap.size (d.c u) (σ.caches u) (AL.del todo (nm, q)) := hit2.fr (Fr.pu hP24 : Fr (fun _ => False) w2 w4) (fun h => h) (fun h => h)
    have hrow4 : RowAt w4 92 2 s ((done.filter (inPages name at_ n)).flatMap placeCells) := (hrow.fr hf2 fun b hb e => by have := hblk b hb; omega).pu hP24
    have hlen2 : (AL.del todo (nm, q)).length + 1 = todo.length := AL.length_del hpm hit.nodup
    have hperm' : ((done ++ [(nm, q)]) ++ (AL.del todo (nm, q)).map Prod.fst).Perm ((σ.caches u).map Prod.fst) := by
      refine List.Perm.trans ?_ hperm
      simp only [List.append_assoc]
      exact List.Perm.append_left done ((AL.perm_del hpm hit.nodup).map Prod.fst).symm
    have htodo' : ∀ x ∈ AL.del todo (nm, q), x ∈ σ.caches u := fun x hx => htodo x ((AL.perm_del hpm hit.nodup).mem_iff.2 (List.mem_cons_of_mem _ hx))
    have skip : inPages name at_ n (nm, q) = false -> J s w4 := fun hsk => by
      refine hJ (m - 1) _ _ (by omega) ⟨AL.del todo (nm, q), done ++ [(nm, q)], by omega, by simp; omega, hit4, hP2.trans hP24, by omega, htodo', hperm', ?_, hblk⟩
      rw [List.filter_append]; simp only [List.filter_cons, hsk]; simpa using hrow4
    refine ⟨nm, by rw [cell_blk hb4]; rfl, ?_⟩
    rw [toList_beq]
    refine Br.of (fun c1 => ?_) (fun c1 => skip (by simp [inPages, dfalse c1]))
    have c1 := dtrue c1
    refine ⟨q, by rw [add_def, cell_blk hb4]; rfl, ?_⟩
    rw [wrap_in (n := q * 32) (by omega) (by omega), wrap_in (n := at_ + n) (by omega) (by omega)]
    refine Br.of (fun c2 => ?_) (fun c2 => skip (by have := dfalse c2; simp only [inPages]; exact decide_eq_false fun hh => this hh.2.1))
    have c2 := dtrue c2
    refine ⟨q, by rw [add_def, cell_blk hb4]; rfl, ?_⟩
    rw [wrap_in (n := q + 1) (by omega) (by omega), wrap_in (n := (q + 1) * 32) (by omega) (by omega)]
    refine Br.of (fun c3 => ?_) (fun c3 => skip (by have := dfalse c3; simp only [inPages]; exact decide_eq_false fun hh => this hh.2.2))
    have c3 := dtrue c3
    have hin : inPages name at_ n (nm, q) = true := by simp only [inPages]; exact decide_eq_true ⟨c1, c2, c3⟩
    refine ⟨nm, by rw [add_def, cell_blk hb4]; rfl, q, by rw [add_def, cell_blk hb4]; rfl, ?_⟩
    refine alE_intro fun w5 hw5 => ?_
    have hp5 : Pu w4 w5 := by rw [hw5]; exact Pu.alloc w4 _
    have hb5 : w5.heap[w4.heap.size]? = some (.cells #[.string nm, .int .i64 q] 92) := by rw [hw5]; exact alloc_new w4 _
    obtain ⟨i, hi, hz, hsz, hby⟩ := info_parts info66
    have hdl2 : (done.filter (inPages name at_ n)).length <= done.length := List.length_filter_le _ _
    have hsl : s.len = (done.filter (inPages name at_ n)).length := by have := hrow4.1; rw [flat_len] at this; omega
    obtain ⟨s', w6, hra, hrow', hf6, hblk6, _⟩ := row_append (P := Tryz.prog) (ty := 119) u63 hi hz hsz (by rfl) (by decide) (hrow4.pu hp5) (a := ⟨w4.heap.size, 0, none⟩) (m := 1) (c := 1) (news := placeCells (nm, q)) (by simp [placeCells]) (fun j v hv => by
      rw [add_def, cell_blk hb5, Nat.zero_add]
      simpa [placeCells] using hv) (by simp [placeCells, Value.oneCell']) (by rw [hby]; omega)
    have hs5 : w5.heap.size = w4.heap.size + 1 := by rw [hw5]; simp
    refine ⟨s', w6, hra, hJ (m - 1) _ _ (by omega) ⟨AL.del todo (nm, q), done ++ [(nm, q)], by omega, by simp; omega, ?_, ?_, ?_, htodo', hperm', ?_, fun b hb => ?_⟩⟩
    · exact (hit4.fr (Fr.pu hp5 : Fr (fun _ => False) w4 w5) (fun h => h) (fun h => h)).fr hf6 (fun hb => by have := hblk _ hb; omega) (fun hb => by have := hblk _ hb; have := h.lt _ (d.mem_c hu); omega)
    · exact ((hP2.trans hP24).trans hp5).andNew hf6 fun b hb => Nat.le_of_lt (hblk b hb)
    · have := hf6.size; omega
    · rw [List.filter_append, List.flatMap_append]; simp only [List.filter_cons, hin, if_true]; simpa using hrow'
    · rcases hblk6 b hb with hb | hb
      · exact hblk b hb
      · omega

def wrAll (u : Nat) (name : ByteArray) : List Place -> Sys × Nat -> Sys × Nat
  | [], s => s
  | p :: ps, s => wrAll u name ps (writtenS s.1 u name p.2.toNat, s.2 + wrN (pageOf s.1 u p) 32)

theorem flat_get (ps : List Place) : ∀ {j : Nat} {p : Place}, ps[j]? = some p -> (ps.flatMap placeCells)[j * 2]? = some (.string p.1) /\ (ps.flatMap placeCells)[j * 2 + 1]? = some (.int .i64 p.2) := by
  induction ps with
  | nil => intro j p h; simp at h
  | cons q ps ih =>
    intro j p h
    cases j with
    | zero => simp at h; subst h; simp [placeCells]
    | succ j =>
      have h := ih (by simpa using h)
      simp only [List.flatMap_cons, placeCells, List.cons_append, List.nil_append]
      rw [show (j + 1) * 2 = j * 2 + 1 + 1 by omega]
      simpa using h
structure Good (σ : Sys) : Prop where
  small : Small σ
  near : Near σ
  cnt : ∀ u, u < 4 -> (σ.caches u).length <= 1000000
  file : ∀ u, u < 4 -> ∀ q ∈ σ.caches u, ∃ f, AL.get σ.files q.1.1 = some f /\ ∀ i, i < 32 -> (q.2.kn i = true ∨ q.2.di i = true) -> q.1.2.toNat * 32 + i < f.length
theorem AL.mem_put {κ ν : Type} [DecidableEq κ] {l : List (κ × ν)} {k : κ} {v : ν} {q : κ × ν} (h : q ∈ AL.put l k v) : q = (k, v) ∨ q ∈ l := by
  induction l with
  | nil => simp [AL.put] at h; exact .inl h
  | cons p l ih =>
    obtain ⟨a, b⟩ := p
    simp only [AL.put] at h
    by_cases e : a = k
    · simp only [e, if_true, List.mem_cons] at h
      rcases h with h | h
      · exact .inl h
      · exact .inr (List.mem_cons_of_mem _ h)
    · simp only [e, if_false, List.mem_cons] at h
      rcases h with h | h
      · exact .inr (by rw [h]; simp)
      · rcases ih h with h | h
        · exact .inl h
        · exact .inr (List.mem_cons_of_mem _ h)
theorem AL.get_isSome {κ ν : Type} [DecidableEq κ] {l : List (κ × ν)} {k : κ} (h : k ∈ l.map Prod.fst) : ∃ v, AL.get l k = some v := by
  cases hg : AL.get l k with
  | none => exact absurd h (AL.get_none.1 hg)
  | some v => exact ⟨v, rfl⟩
theorem Good.page {σ : Sys} (h : Good σ) {u : Nat} (hu : u < 4) {name : ByteArray} {kk : Nat} (hk : (name, (kk : Int)) ∈ (σ.caches u).map Prod.fst) :
    kk <= 1000000 /\ ∃ f, AL.get σ.files name = some f /\ f.length <= 1000000 /\ ∀ i, i < 32 -> ((pageOf σ u (name, (kk : Int))).kn i = true ∨ (pageOf σ u (name, (kk : Int))).di i = true) -> kk * 32 + i < f.length := by
  obtain ⟨pg, hg⟩ := AL.get_isSome hk
  have hm := AL.get_mem hg
  obtain ⟨f, hf, hfi⟩ := h.file u hu _ hm
  have hn := h.near u hu _ hm
  simp only at hn hf hfi
  refine ⟨by omega, f, hf, h.small _ _ hf, fun i hi hkd => ?_⟩
  simp only [pageOf, hg, Option.getD_some] at hkd
  have := hfi i hi hkd
  simpa using this
theorem Good.written {σ : Sys} (h : Good σ) {u : Nat} (hu : u < 4) {name : ByteArray} {kk : Nat} (hk : (name, (kk : Int)) ∈ (σ.caches u).map Prod.fst) : Good (writtenS σ u name kk) := by
  obtain ⟨h1, f, hf, hfl, hfi⟩ := h.page hu hk
  have hfo : fileOf σ name = f := by simp [fileOf, hf]
  obtain ⟨pg, hg⟩ := AL.get_isSome hk
  have hpg : pageOf σ u (name, (kk : Int)) = pg := by simp [pageOf, hg]
  have hfiles : ∀ x g, AL.get (writtenS σ u name kk).files x = some g -> ∃ g', AL.get σ.files x = some g' /\ g.length = g'.length := by
    intro x g hx
    simp only [writtenS, Sys.setCache, hfo, AL.get_put] at hx
    split at hx
    · rename_i e; subst e; cases hx; exact ⟨f, hf, wrF_len _ _ _ _⟩
    · exact ⟨g, hx, rfl⟩
  have hfiles' : ∀ x g, AL.get σ.files x = some g -> ∃ g', AL.get (writtenS σ u name kk).files x = some g' /\ g'.length = g.length := by
    intro x g hx
    simp only [writtenS, Sys.setCache, hfo, AL.get_put]
    split
    · rename_i e; subst e; rw [hf] at hx; cases hx; exact ⟨_, rfl, wrF_len _ _ _ _⟩
    · exact ⟨g, hx, rfl⟩
  have hmem : ∀ v, v < 4 -> ∀ q ∈ (writtenS σ u name kk).caches v, ∃ q' ∈ σ.caches v, q'.1 = q.1 /\ ∀ i, (q.2.kn i = true ∨ q.2.di i = true) -> (q'.2.kn i = true ∨ q'.2.di i = true) := by
    intro v hv q hq
    simp only [writtenS, Sys.setCache] at hq
    split at hq
    · rename_i e; subst e
      rcases AL.mem_put hq with h | h
      · refine ⟨((name, (kk : Int)), pg), AL.get_mem hg, by rw [h], fun i hi => ?_⟩
        rw [h, hpg] at hi
        rcases hi with hi | hi
        · exact .inl hi
        · simp only [clearTo] at hi
          split at hi
          · cases hi
          · exact .inr hi
      · exact ⟨q, h, rfl, fun i hi => hi⟩
    · exact ⟨q, hq, rfl, fun i hi => hi⟩
  refine ⟨fun x g hx => ?_, fun v hv q hq => ?_, fun v hv => ?_, fun v hv q hq => ?_⟩
  · obtain ⟨g', hg', he⟩ := hfiles x g hx; rw [he]; exact h.small _ _ hg'
  · obtain ⟨q', hq', he, _⟩ := hmem v hv q hq; rw [← he]; exact h.near v hv _ hq'
  · simp only [writtenS, Sys.setCache]
    split
    · rename_i e; subst e; rw [AL.length_put_old (by rw [hg]; simp)]; exact h.cnt _ hv
    · exact h.cnt v hv
  · obtain ⟨q', hq', he, hi⟩ := hmem v hv q hq
    obtain ⟨g, hg1, hg2⟩ := h.file v hv q' hq'
    obtain ⟨g', hg3, hg4⟩ := hfiles' _ _ hg1
    refine ⟨g', by rw [← he]; exact hg3, fun i hi' hkd => ?_⟩
    rw [← he, hg4]; exact hg2 i hi' (hi i hkd)
theorem written_keys {σ : Sys} {u : Nat} {name : ByteArray} {kk : Nat} (hk : (name, (kk : Int)) ∈ (σ.caches u).map Prod.fst) (v : Nat) : ((writtenS σ u name kk).caches v).map Prod.fst = (σ.caches v).map Prod.fst := by
  simp only [writtenS, Sys.setCache]
  split
  · rename_i e; subst e
    obtain ⟨pg, hg⟩ := AL.get_isSome hk
    obtain ⟨l1, l2, h1, h2⟩ := AL.put_split hg
    rw [h2, h1]; simp
  · rfl

theorem wrAll_snoc (u : Nat) (name : ByteArray) (p : Place) : ∀ (ps : List Place) (s : Sys × Nat), wrAll u name (ps ++ [p]) s = (writtenS (wrAll u name ps s).1 u name p.2.toNat, (wrAll u name ps s).2 + wrN (pageOf (wrAll u name ps s).1 u p) 32)
  | [], s => rfl
  | q :: ps, s => by simp only [List.cons_append, wrAll]; exact wrAll_snoc u name p ps _
theorem wrAll_good {u : Nat} (hu : u < 4) {name : ByteArray} {σ : Sys} (h : Good σ) : ∀ (ps : List Place) (n : Nat), (∀ p ∈ ps, p ∈ (σ.caches u).map Prod.fst /\ p.1 = name) -> Good (wrAll u name ps (σ, n)).1 /\ (∀ v, ((wrAll u name ps (σ, n)).1.caches v).map Prod.fst = (σ.caches v).map Prod.fst) /\ (wrAll u name ps (σ, n)).2 <= n + 32 * ps.length
  | [], n, _ => ⟨h, fun _ => rfl, by simp [wrAll]⟩
  | p :: ps, n, hp => by
    obtain ⟨hk, hnm⟩ := hp p (by simp)
    obtain ⟨nm, q⟩ := p
    have hnm : nm = name := hnm
    subst hnm
    obtain ⟨pg, hg⟩ := AL.get_isSome hk
    have hq := (h.near u hu _ (AL.get_mem hg)).1
    simp only at hq
    obtain ⟨kk, rfl⟩ := Int.eq_ofNat_of_zero_le hq
    have hG := h.written hu hk
    have hK := written_keys hk
    have := wrAll_good hu hG ps (n + wrN (pageOf σ u (nm, (kk : Int))) 32) fun p' hp' => ⟨by rw [hK]; exact (hp p' (by simp [hp'])).1, (hp p' (by simp [hp'])).2⟩
    have hle := wrN_le (pageOf σ u (nm, (kk : Int))) 32
    refine ⟨this.1, fun v => (this.2.1 v).trans (hK v), ?_⟩
    have h3 := this.2.2
    simp only [wrAll, Int.toNat_natCast, List.length_cons] at h3 ⊢
    omega

theorem flush_c {w : World} {d : Lay} {σ : Sys} (h : SysAt w d 0 σ) (hG : Good σ) (u : Int) (name : ByteArray) :
    Calls Tryz.prog 26 #[d.ptr, .int .i64 u, .string name] w fun e w' => ∃ n : Int, e = .returned (.tuple #[.int .i64 n, .int .i64 (enterC u name σ)]) /\
      ((enterC u name σ ≠ 0 /\ n = 0 /\ Left w w' d d σ) ∨ (enterC u name σ = 0 /\ ∃ ps : List Place, ps.Perm (((σ.caches u.toNat).map Prod.fst).filter (inPages name 0 65536)) /\ n = ((wrAll u.toNat name ps (σ, 0)).2 : Nat) /\ Left w w' d d (wrAll u.toNat name ps (σ, 0)).1)) := by
  refine F26_calls _ _ _ w _ ?_
  refine Calls.mono (enter_c h u name) ?_
  rintro e w2 ⟨rfl, h2, hf2⟩
  have hf2' : Fr (· ∈ d.own) w w2 := hf2.mono fun i hi _ => by rw [show i = d.S from hi]; exact mem_S d
  refine ⟨_, _, rfl, Br.of (fun he => ?_) (fun he => ?_)⟩
  · have he : enterC u name σ ≠ 0 := by simpa using he
    exact leave_left h2 hf2' fun w' hL _ => ⟨0, rfl, .inl ⟨he, rfl, hL⟩⟩
  · have he : enterC u name σ = 0 := by simpa using he
    obtain ⟨hu0, hu4, f, hf⟩ := enterC_zero he
    obtain ⟨un, rfl⟩ := Int.eq_ofNat_of_zero_le hu0
    have hun : un < 4 := by omega
    refine Calls.mono (pages_c h2 hG.near hun name (by omega) (by omega) (hG.cnt un hun)) ?_
    rintro e w3 ⟨l, ps, rfl, hrow, hperm, hp3, hblk⟩
    refine ⟨l, rfl, ?_⟩
    have hfl := flat_len ps
    have hl : l.len = ps.length := by have := hrow.1; omega
    rw [hl]
    have hps : ∀ p ∈ ps, p ∈ (σ.caches un).map Prod.fst /\ p.1 = name := fun p hp => by
      have := hperm.mem_iff.1 hp
      obtain ⟨h1, h2⟩ := List.mem_filter.1 this
      exact ⟨h1, (of_decide_eq_true h2).1⟩
    have hcnt : ps.length <= 1000000 := by
      have h1 := hperm.length_eq
      have h2 := List.length_filter_le (inPages name 0 65536) ((σ.caches un).map Prod.fst)
      have h3 := hG.cnt un hun
      simp at h2; omega
    refine loopUp ps.length (fun k t w' => t = ((((wrAll un name (ps.take k) (σ, 0)).2 : Nat) : Int), (k : Int)) /\ SysAt w' d 1 (wrAll un name (ps.take k) (σ, 0)).1 /\ RowAt w' 92 2 l (ps.flatMap placeCells) /\ Fr (· ∈ d.own) w w') ⟨rfl, h2.pu hp3, hrow, hf2'.trans (Fr.pu hp3 : Fr (· ∈ d.own) w2 w3) fun i hi _ => hi⟩ ?_
    rintro k J t w' hk ⟨rfl, hS, hrw, hfr⟩ hJ
    refine Br.of (fun hlt => ?_) (fun hge => ?_)
    · have hlt' : k < ps.length := by have := dtrue hlt; omega
      obtain ⟨p, hp⟩ : ∃ p, ps[k]? = some p := ⟨_, List.getElem?_eq_getElem hlt'⟩
      obtain ⟨g1, g2⟩ := flat_get ps hp
      obtain ⟨g, hga, hgc, hgb⟩ := hrw.base (fun e => by rw [e] at g1; simp at g1)
      have hpk := hps p (List.mem_of_getElem? hp)
      obtain ⟨nm, q⟩ := p
      have hnm : nm = name := hpk.2
      subst hnm
      obtain ⟨pg, hg⟩ := AL.get_isSome hpk.1
      have hq := (hG.near un hun _ (AL.get_mem hg)).1
      simp only at hq
      obtain ⟨kk, rfl⟩ := Int.eq_ofNat_of_zero_le hq
      obtain ⟨hGk, hKk, hNk⟩ := wrAll_good hun hG (ps.take k) 0 (name := nm) fun p' hp' => hps p' (List.mem_of_mem_take hp')
      refine ⟨⟨g, 0, none⟩, hga, by omega, by omega, nm, ?_, (kk : Int), ?_, ?_⟩
      · rw [add_def, add_def]; rw [← hgc (k * 2) _ g1]; congr 2; omega
      · rw [add_def, add_def]; rw [← hgc (k * 2 + 1) _ g2]; congr 2; omega
      refine alE_intro fun w4 hw4 => ?_
      have hp4 : Pu w' w4 := by rw [hw4]; exact Pu.alloc w' _
      have hb4 : w4.heap[w'.heap.size]? = some (.cells #[.string ⟨#[]⟩, .int .i64 0] 92) := by rw [hw4]; exact alloc_new w' _
      refine stA_fill hb4 (by rw [size66]; rfl) rfl rfl fun w5 hb5 hf5 hs5 => ?_
      have hP5 : Pu w' w5 := hp4.andNew hf5 fun i hi => by omega
      refine ⟨nm, by rw [add_def, cell_blk hb5]; rfl, (kk : Int), by rw [add_def, cell_blk hb5]; rfl, ?_⟩
      obtain ⟨b1, f', hf', hfl', hfi'⟩ := hGk.page hun (name := nm) (kk := kk) (by rw [hKk]; exact hpk.1)
      refine Calls.mono (written_c (hS.pu hP5) hun b1 hf' hfl' fun i hi hd => hfi' i hi (.inr hd)) ?_
      rintro e w6 ⟨rfl, h6, hf6⟩
      refine ⟨_, rfl, ?_⟩
      have hle := wrN_le (pageOf (wrAll un nm (ps.take k) (σ, 0)).1 un (nm, (kk : Int))) 32
      have htl : (ps.take k).length = k := by simp; omega
      rw [wrap_in (by omega) (by omega), wrap_in (by omega) (by omega)]
      have htk : ps.take (k + 1) = ps.take k ++ [(nm, (kk : Int))] := by rw [List.take_add_one, hp]; rfl
      have hle2 : w.heap.size <= w2.heap.size := hf2'.size
      refine hJ _ _ hlt' ⟨?_, ?_, ?_, ?_⟩
      · rw [htk, wrAll_snoc]; simp only [Prod.mk.injEq]; omega
      · rw [htk, wrAll_snoc]; simpa using h6
      · exact (hrw.pu hP5).fr hf6 fun b hb hbo => by have := hblk b hb; have := h2.lt b hbo; omega
      · exact (hfr.trans (Fr.pu hP5 : Fr (· ∈ d.own) w' w5) fun i hi _ => hi).trans hf6 fun i hi _ => hi
    · have hk : k = ps.length := by have := dfalse hge; omega
      subst hk
      rw [List.take_length] at hS ⊢
      refine leave_left hS hfr fun w' hL _ => ⟨_, by rw [he]; rfl, .inr ⟨he, ps, hperm, rfl, hL⟩⟩
end Go.Proofs.YtnigfiljenfgjaaGreat

/- The disk: shortening a cache; the length of a file. -/
set_option maxRecDepth 100000
set_option linter.unusedVariables false
set_option linter.unusedSimpArgs false
set_option linter.unusedSectionVars false
namespace Go.Proofs.YtnigfiljenfgjaaGreat
open Go.Sh Go.RowKit

def shortPg (a m : Nat) (pg : Page) : Page where
  b := fun j => if a <= j /\ j < m then 0 else pg.b j
  kn := fun j => if a <= j /\ j < m then false else pg.kn j
  di := fun j => if a <= j /\ j < m then false else pg.di j
theorem shortPg_zero (a : Nat) (pg : Page) : shortPg a a pg = pg := Page.ext' (fun j => by simp [shortPg]; omega) (fun j => by simp [shortPg]; omega) (fun j => by simp [shortPg]; omega)
theorem shortPg_step (a m : Nat) (pg : Page) (h : a <= m) : ({ b := upN (shortPg a m pg).b m 0, kn := upN (shortPg a m pg).kn m false, di := upN (shortPg a m pg).di m false } : Page) = shortPg a (m + 1) pg := by
  refine Page.ext' (fun j => ?_) (fun j => ?_) (fun j => ?_) <;> simp only [upN, shortPg]
  all_goals
    by_cases e : j = m
    · subst e; simp [h]
    · have : j < m + 1 ↔ j < m := by omega
      simp [e, this]
def shortA (n : Nat) (name : ByteArray) (q : Place × Page) : Option (Place × Page) :=
  if q.1.1 ≠ name ∨ (q.1.2 + 1) * 32 <= n then some q else if q.1.2 * 32 ≥ n then none else some (q.1, shortPg (n - q.1.2.toNat * 32) 32 q.2)
def shortS (σ : Sys) (u : Nat) (name : ByteArray) (n : Nat) : Sys := σ.setCache u ((σ.caches u).filterMap (shortA n name))
theorem shortA_key {n : Nat} {name : ByteArray} {q r : Place × Page} (h : shortA n name q = some r) : r.1 = q.1 := by
  unfold shortA at h
  split at h
  · cases h; rfl
  · split at h
    · cases h
    · cases h; rfl
theorem setCache_twice (σ : Sys) (u : Nat) (a b : List (Place × Page)) : (σ.setCache u a).setCache u b = σ.setCache u b := by
  simp only [Sys.setCache, Sys.mk.injEq, true_and, and_true]
  funext v; split <;> rfl
theorem setCache_self (σ : Sys) (u : Nat) : σ.setCache u (σ.caches u) = σ := by
  simp only [Sys.setCache]
  cases σ
  simp only [Sys.mk.injEq, true_and, and_true]
  funext v; split
  · rename_i e; rw [e]
  · rfl
theorem setCache_at (σ : Sys) (u : Nat) (a : List (Place × Page)) : (σ.setCache u a).caches u = a := by simp [Sys.setCache]

section
variable {κ ν : Type} [DecidableEq κ]
theorem fm_same {l : List (κ × ν)} {F F' : κ × ν -> Option (κ × ν)} (h : ∀ q ∈ l, F q = F' q) : l.filterMap F = l.filterMap F' := by
  induction l with
  | nil => rfl
  | cons q l ih => simp only [List.filterMap_cons, h q (by simp), ih fun x hx => h x (by simp [hx])]
theorem fm_put {l : List (κ × ν)} (hn : (l.map Prod.fst).Nodup) {F F' : κ × ν -> Option (κ × ν)} {k : κ} {a v : ν} (hm : (k, a) ∈ l) (h1 : F (k, a) = some (k, a)) (h2 : F' (k, a) = some (k, v)) (h3 : ∀ q ∈ l, q.1 ≠ k -> F q = F' q)
    (hk : ∀ q r, F q = some r -> r.1 = q.1) : AL.put (l.filterMap F) k v = l.filterMap F' := by
  induction l with
  | nil => cases hm
  | cons q l ih =>
    simp only [List.map_cons, List.nodup_cons] at hn
    by_cases e : q.1 = k
    · have hq : q = (k, a) := by
        rcases List.mem_cons.1 hm with h | h
        · exact h.symm
        · exact absurd (List.mem_map.2 ⟨_, h, rfl⟩) (by rw [e] at hn; exact hn.1)
      subst hq
      simp only [List.filterMap_cons, h1, h2, AL.put, if_true]
      congr 1
      exact fm_same fun x hx => h3 x (by simp [hx]) fun e' => hn.1 (List.mem_map.2 ⟨x, hx, e'⟩)
    · have hm' : (k, a) ∈ l := by
        rcases List.mem_cons.1 hm with h | h
        · exact absurd (by rw [← h]) e
        · exact h
      have hq := h3 q (by simp) e
      simp only [List.filterMap_cons, ← hq]
      have ih := ih hn.2 hm' fun x hx => h3 x (by simp [hx])
      cases hF : F q with
      | none => exact ih
      | some r =>
        have := hk q r hF
        obtain ⟨r1, r2⟩ := r
        simp only at this
        simp only [AL.put, this, if_neg e, ih]
theorem fm_del {l : List (κ × ν)} (hn : (l.map Prod.fst).Nodup) {F F' : κ × ν -> Option (κ × ν)} {k : κ} {a : ν} (hm : (k, a) ∈ l) (h1 : F (k, a) = some (k, a)) (h2 : F' (k, a) = none) (h3 : ∀ q ∈ l, q.1 ≠ k -> F q = F' q)
    (hk : ∀ q r, F q = some r -> r.1 = q.1) : AL.del (l.filterMap F) k = l.filterMap F' := by
  induction l with
  | nil => cases hm
  | cons q l ih =>
    simp only [List.map_cons, List.nodup_cons] at hn
    by_cases e : q.1 = k
    · have hq : q = (k, a) := by
        rcases List.mem_cons.1 hm with h | h
        · exact h.symm
        · exact absurd (List.mem_map.2 ⟨_, h, rfl⟩) (by rw [e] at hn; exact hn.1)
      subst hq
      simp only [List.filterMap_cons, h1, h2, AL.del, if_true]
      exact fm_same fun x hx => h3 x (by simp [hx]) fun e' => hn.1 (List.mem_map.2 ⟨x, hx, e'⟩)
    · have hm' : (k, a) ∈ l := by
        rcases List.mem_cons.1 hm with h | h
        · exact absurd (by rw [← h]) e
        · exact h
      have hq := h3 q (by simp) e
      simp only [List.filterMap_cons, ← hq]
      have ih := ih hn.2 hm' fun x hx => h3 x (by simp [hx])
      cases hF : F q with
      | none => exact ih
      | some r =>
        have := hk q r hF
        obtain ⟨r1, r2⟩ := r
        simp only at this
        simp only [AL.del, this, if_neg e, ih]
theorem AL.not_mem_del {l : List (κ × ν)} (h : (l.map Prod.fst).Nodup) (k : κ) : k ∉ (AL.del l k).map Prod.fst := AL.get_none.1 (by rw [AL.get_del h]; simp)
theorem AL.del_put (l : List (κ × ν)) (k : κ) (v : ν) (h : k ∈ l.map Prod.fst) : AL.del (AL.put l k v) k = AL.del l k := by
  induction l with
  | nil => cases h
  | cons q l ih =>
    obtain ⟨a, b⟩ := q
    by_cases e : a = k
    · simp [AL.put, AL.del, e]
    · simp only [List.map_cons, List.mem_cons] at h
      simp [AL.put, AL.del, e, ih (h.resolve_left fun h => e h.symm)]
theorem AL.mem_keys_del' {l : List (κ × ν)} (h : (l.map Prod.fst).Nodup) {k x : κ} (hx : x ≠ k) : x ∈ (AL.del l k).map Prod.fst ↔ x ∈ l.map Prod.fst := by
  have h1 := AL.get_del h k x
  rw [if_neg (Ne.symm hx)] at h1
  have a := @AL.get_none κ ν _ (AL.del l k) x
  have b := @AL.get_none κ ν _ l x
  rw [h1] at a
  constructor
  · intro hm; exact Classical.byContradiction fun hn => (a.1 (b.2 hn)) hm
  · intro hm; exact Classical.byContradiction fun hn => (b.1 (a.2 hn)) hm
end

theorem shorten_c {w : World} {d : Lay} {mu : Int} {σ : Sys} (h : SysAt w d mu σ) (hne : Near σ) {u : Nat} (hu : u < 4) (name : ByteArray) {n : Nat} (hn : n <= 1000000) :
    Calls Tryz.prog 67 #[d.ptr, .int .i64 (u : Int), .string name, .int .i64 (n : Int)] w fun e w' => e = .returned (.tuple #[]) /\ SysAt w' d mu (shortS σ u name n) /\ Fr (· ∈ d.own) w w' := by
  refine F67_calls _ _ name _ w _ ?_
  obtain ⟨w1, hr1, hi1, hp1, hs1⟩ := (h.ca u hu).range (t := 63) u48
  have hnd := (h.ca u hu).nodup
  refine ⟨by omega, by omega, some (d.c u), h.cellC hu, _, w1, hr1, ?_⟩
  refine loopDown (σ.caches u).length (fun m s w' => ∃ (todo cur : List (Place × Page)), todo.length = m /\ cur = (σ.caches u).filterMap (fun q : Place × Page => if (AL.get todo q.1).isSome then some q else shortA n name q) /\
    IterAt w' ekP evP w.heap.size (d.c u) cur todo /\ (∀ q ∈ todo, q ∈ σ.caches u) /\ SysAt w' d mu (σ.setCache u cur) /\ Fr (· ∈ d.own) w w' /\ w.heap.size < w'.heap.size)
    ⟨σ.caches u, σ.caches u, rfl, ?_, hi1, fun q hq => hq, by rw [setCache_self]; exact h.pu hp1, Fr.pu hp1, by omega⟩ ?_
  · rw [show (σ.caches u).filterMap (fun q : Place × Page => if (AL.get (σ.caches u) q.1).isSome then some q else shortA n name q) = (σ.caches u).filterMap some from fm_same fun q hq => by
      obtain ⟨v, hv⟩ := AL.get_isSome (List.mem_map.2 ⟨q, hq, rfl⟩)
      rw [hv]; rfl]
    simp
  rintro m J s w' ⟨todo, cur, hm, hcur, hit, htodo, hS, hfr, hlt⟩ hJ
  rcases hit.next (P := Tryz.prog) 0 with ⟨hnil, hr⟩ | ⟨p, hpm, w2, hr, hf2, hs2, hit2, hen⟩
  · refine .inl ⟨w', hr, rfl, ?_, hfr⟩
    subst hnil
    have : cur = (σ.caches u).filterMap (shortA n name) := by rw [hcur]; exact fm_same fun q _ => by simp [AL.get]
    rw [this] at hS; exact hS
  · refine .inr ⟨_, _, w2, hr, _, _, w2, hen, ?_⟩
    obtain ⟨⟨nm, q⟩, pg⟩ := p
    have hpl := htodo _ hpm
    have hq := hne u hu _ hpl
    simp only at hq
    obtain ⟨kk, rfl⟩ := Int.eq_ofNat_of_zero_le hq.1
    have hlen2 : (AL.del todo (nm, (kk : Int))).length + 1 = todo.length := AL.length_del hpm hit.nodup
    have hnt : (nm, (kk : Int)) ∉ (AL.del todo (nm, (kk : Int))).map Prod.fst := AL.not_mem_del hit.nodup _
    have hin : (nm, (kk : Int)) ∈ todo.map Prod.fst := List.mem_map.2 ⟨_, hpm, rfl⟩
    have htodo' : ∀ x ∈ AL.del todo (nm, (kk : Int)), x ∈ σ.caches u := fun x hx => htodo x ((AL.perm_del hpm hit.nodup).mem_iff.2 (List.mem_cons_of_mem _ hx))
    have hk1 : ∀ (q r : Place × Page), (if (AL.get todo q.1).isSome then some q else shortA n name q) = some r -> r.1 = q.1 := fun q r hqr => by
      split at hqr
      · cases hqr; rfl
      · exact shortA_key hqr
    have hoth : ∀ q ∈ σ.caches u, q.1 ≠ (nm, (kk : Int)) -> (if (AL.get todo q.1).isSome then some q else shortA n name q) = (if (AL.get (AL.del todo (nm, (kk : Int))) q.1).isSome then some q else shortA n name q) := fun q _ hne => by
      rw [AL.get_del hit.nodup, if_neg (Ne.symm hne)]
    have hF1 : (if (AL.get todo ((nm, (kk : Int)), pg).1).isSome then some ((nm, (kk : Int)), pg) else shortA n name ((nm, (kk : Int)), pg)) = some ((nm, (kk : Int)), pg) := by
      obtain ⟨v, hv⟩ := AL.get_isSome hin
      rw [hv]; rfl
    have hF2 : (if (AL.get (AL.del todo (nm, (kk : Int))) ((nm, (kk : Int)), pg).1).isSome then some ((nm, (kk : Int)), pg) else shortA n name ((nm, (kk : Int)), pg)) = shortA n name ((nm, (kk : Int)), pg) := by
      rw [AL.get_none.2 hnt]; rfl
    have hcm : (nm, (kk : Int)) ∈ cur.map Prod.fst := by
      rw [hcur]
      exact List.mem_map.2 ⟨((nm, (kk : Int)), pg), List.mem_filterMap.2 ⟨_, hpl, hF1⟩, rfl⟩
    have hS2 : SysAt w2 d mu (σ.setCache u cur) := hS.fr hf2 fun b hb e => by have := h.lt b hb; omega
    have hfr2 : Fr (· ∈ d.own) w w2 := hfr.trans hf2 fun i hi hlt => by omega
    show dAgg (.agg #[.string nm, .int .i64 (kk : Int)]) _
    simp only [dAgg_mk, dHd_mk, dStr_mk, dInt_mk, dNil_mk]
    show dRow (.agg pg.cells) _
    rw [dRow_mk]
    refine alE_intro fun w3 hw3 => alE_intro fun w4 hw4 => ?_
    have hp3 : Pu w2 w3 := by rw [hw3]; exact Pu.alloc w2 _
    have hp4 : Pu w3 w4 := by rw [hw4]; exact Pu.alloc w3 _
    have hb3 : w3.heap[w2.heap.size]? = some (.cells #[.string ⟨#[]⟩, .int .i64 0] 92) := by rw [hw3]; exact alloc_new w2 _
    have hb4 : w4.heap[w3.heap.size]? = some (.cells (zc Tryz.prog 89) 89) := by rw [hw4]; exact alloc_new w3 _
    have hs3 : w3.heap.size = w2.heap.size + 1 := by rw [hw3]; simp
    have hs4 : w4.heap.size = w2.heap.size + 2 := by rw [hw4]; simp [hs3]
    refine stA_fill (hp4.blk hb3) (by rw [size66]; rfl) rfl rfl fun w5 hb5 hf5 hs5 => ?_
    refine stA_fill (hf5.blk hb4 (by omega)) (by rw [Page.size_cells, size61]) (by rw [zero61, Page.size_cells, Page.size_cells]) (Page.one _) fun w6 hb6 hf6 hs6 => ?_
    have hP6 : Pu w2 w6 := ((hp3.trans hp4).andNew hf5 fun i hi => by omega).andNew hf6 fun i hi => by omega
    have hb56 : w6.heap[w2.heap.size]? = some (.cells #[.string nm, .int .i64 (kk : Int)] 92) := hf6.blk hb5 (by omega)
    have hit6 : IterAt w6 ekP evP w.heap.size (d.c u) cur (AL.del todo (nm, (kk : Int))) := hit2.fr (Fr.pu hP6 : Fr (fun _ => False) w2 w6) (fun h => h) (fun h => h)
    have hS6 := hS2.pu hP6
    have hfr6 : Fr (· ∈ d.own) w w6 := hfr2.trans (Fr.pu hP6 : Fr (· ∈ d.own) w2 w6) fun i hi _ => hi
    have skip : shortA n name ((nm, (kk : Int)), pg) = some ((nm, (kk : Int)), pg) -> J () w6 := fun hsk => by
      refine hJ (m - 1) _ _ (by omega) ⟨AL.del todo (nm, (kk : Int)), cur, by omega, ?_, hit6, htodo', hS6, hfr6, by omega⟩
      rw [hcur]
      refine fm_same fun q hq => ?_
      by_cases e : q.1 = (nm, (kk : Int))
      · have : q = ((nm, (kk : Int)), pg) := by
          have h1 := AL.get_of_mem hnd hpl
          have h2 : AL.get (σ.caches u) q.1 = some q.2 := AL.get_of_mem hnd hq
          rw [e, h1] at h2
          cases q; simp only [Option.some.injEq] at h2; simp only at e; rw [e, h2]
        rw [this, hF1, hF2, hsk]
      · exact hoth q hq e
    refine ⟨nm, by rw [cell_blk hb56]; rfl, ?_⟩
    rw [toList_beq]
    refine Br.of (fun c1 => skip ?_) (fun c1 => ?_)
    · have c1 : ¬ nm = name := by simpa using c1
      simp [shortA, c1]
    have c1 : nm = name := by simpa using c1
    refine ⟨(kk : Int), by rw [add_def, cell_blk hb56]; rfl, ?_⟩
    rw [wrap_in (n := (kk : Int) + 1) (by omega) (by omega), wrap_in (n := ((kk : Int) + 1) * 32) (by omega) (by omega)]
    refine Br.of (fun c2 => skip ?_) (fun c2 => ?_)
    · have c2 := dtrue c2
      simp [shortA, c2]
    have c2 := dfalse c2
    refine ⟨(kk : Int), by rw [add_def, cell_blk hb56]; rfl, ?_⟩
    rw [wrap_in (n := (kk : Int) * 32) (by omega) (by omega), wrap_in (n := (n : Int) - (kk : Int) * 32) (by omega) (by omega)]
    refine ⟨_, w6, max_run _ _ _ _ _ _, ?_⟩
    rw [show max 0 ((n : Int) - (kk : Int) * 32) = ((n - kk * 32 : Nat) : Int) by omega]
    generalize ha : n - kk * 32 = a
    have ha32 : a <= 32 := by omega
    -- the page's bytes are cleared
    refine loopUp (32 - a) (fun j t w7 => t = ((a + j : Nat) : Int) /\ w7.heap[w3.heap.size]? = some (.cells (shortPg a (a + j) pg).cells 89) /\ Fr (· = w3.heap.size) w6 w7) ⟨rfl, by rw [Nat.add_zero, shortPg_zero]; exact hb6, Fr.refl _ _⟩ ?_
    rintro j J2 t w7 hj ⟨rfl, hb7, hf7⟩ hJ2
    refine Br.of (fun hlt7 => ?_) (fun hge7 => ?_)
    · have hlt7' : a + j < 32 := by have := dtrue hlt7; omega
      refine ⟨by omega, by omega, ?_⟩
      rw [add_def, add_def]
      refine st1_intro hb7 (by rw [Page.size_cells]; omega) fun w8 hw8 hb8 => ?_
      refine ⟨by omega, by omega, ?_⟩
      rw [add_def, add_def]
      refine st1_intro hb8 (by simp [Page.size_cells]; omega) fun w9 hw9 hb9 => ?_
      refine ⟨by omega, by omega, ?_⟩
      rw [add_def]
      refine st1_intro hb9 (by simp [Page.size_cells]; omega) fun w10 hw10 hb10 => ?_
      have hf8 : Fr (· = w3.heap.size) w7 w8 := by rw [hw8]; exact Fr.cell w7 _ _ _
      have hf9 : Fr (· = w3.heap.size) w8 w9 := by rw [hw9]; exact Fr.cell w8 _ _ _
      have hf10 : Fr (· = w3.heap.size) w9 w10 := by rw [hw10]; exact Fr.cell w9 _ _ _
      rw [wrap_in (by omega) (by omega)]
      refine hJ2 _ _ (by omega) ⟨by omega, ?_, ((hf7.trans hf8 fun i hi _ => hi).trans hf9 fun i hi _ => hi).trans hf10 fun i hi _ => hi⟩
      have e1 : 0 + ((a + j : Nat) : Int).toNat * 1 = a + j := by omega
      have e2 : 0 + 32 + ((a + j : Nat) : Int).toNat * 1 = 32 + (a + j) := by omega
      have e3 : 0 + 64 + ((a + j : Nat) : Int).toNat * 1 = 64 + (a + j) := by omega
      rw [hb10, e1, e2, e3, Page.set_kn _ hlt7', Page.set_di _ hlt7', show Value.int .u8 0 = u8V 0 from rfl, Page.set_b _ hlt7', ← Nat.add_assoc, ← shortPg_step a (a + j) pg (by omega)]
    · have hj32 : a + j = 32 := by have := dfalse hge7; omega
      rw [hj32] at hb7
      refine dwE_intro fun w8 hp8 hh8 => ?_
      have hF8 : Fr (· = w3.heap.size) w6 w8 := hf7.trans (Fr.pu hp8 : Fr (· = w3.heap.size) w7 w8) fun i hi _ => hi
      have hb58 : w8.heap[w2.heap.size]? = some (.cells #[.string nm, .int .i64 (kk : Int)] 92) := hF8.blk hb56 (by omega)
      have hb8 := hp8.blk hb7
      have hown8 : ∀ b ∈ d.own, ¬ b = w3.heap.size := fun b hb => by have := h.lt b hb; omega
      have hS8 : SysAt w8 d mu (σ.setCache u cur) := hS6.fr hF8 hown8
      have hit8 : IterAt w8 ekP evP w.heap.size (d.c u) cur (AL.del todo (nm, (kk : Int))) := hit6.fr hF8 (by omega) (hown8 _ (d.mem_c hu))
      obtain ⟨w9, hr9, hit9, hf9, hs9⟩ := hit8.upd keysP u48 hnt hcm (shortPg a 32 pg)
      have hS9 := hS8.setCache hu hit9.map hf9
      rw [setCache_twice] at hS9
      have hnc : w2.heap.size ≠ d.c u := fun e => by have := h.lt _ (d.mem_c hu); omega
      have hb59 := hf9.blk hb58 hnc
      have hfr9 : Fr (· ∈ d.own) w w9 := (hfr6.trans hF8 fun i hi hlt => by omega).trans hf9 fun i hi _ => by rw [show i = d.c u from hi]; exact d.mem_c hu
      refine ⟨by omega, by omega, some (d.c u), hS8.cellC hu, nm, by rw [add_def, cell_blk hb58]; rfl, (kk : Int), by rw [add_def, cell_blk hb58]; rfl, _, Page.size_cells _, cells_at hb8 96, w9, hr9, (kk : Int), by rw [add_def, cell_blk hb59]; rfl, ?_⟩
      rw [wrap_in (n := (kk : Int) * 32) (by omega) (by omega)]
      refine Br.of (fun c3 => ?_) (fun c3 => ?_)
      · have c3 := dtrue c3
        have hA : shortA n name ((nm, (kk : Int)), pg) = none := by
          have h1 : ¬ (nm ≠ name ∨ ((kk : Int) + 1) * 32 <= (n : Int)) := fun h => h.elim (fun h => h c1) c2
          simp only [shortA]
          rw [if_neg h1, if_pos c3]
        refine dwE_intro fun w10 hp10 hh10 => ?_
        have hS10 := hS9.pu hp10
        have hit10 := hit9.fr (Fr.pu hp10 : Fr (fun _ => False) w9 w10) (fun h => h) (fun h => h)
        obtain ⟨w11, hr11, hit11, hf11, hs11⟩ := hit10.drop (r0 := 0) (tys := #[63, 92]) keysP rfl u48 hnt
        have hS11 := hS10.setCache hu hit11.map hf11
        rw [setCache_twice] at hS11
        have hb510 := hp10.blk hb59
        refine ⟨by omega, by omega, some (d.c u), hS10.cellC hu, nm, by rw [add_def, cell_blk hb510]; rfl, (kk : Int), by rw [add_def, cell_blk hb510]; rfl, w11, hr11, ?_⟩
        have e : AL.del (AL.put cur (nm, (kk : Int)) (shortPg a 32 pg)) (nm, (kk : Int)) = AL.del cur (nm, (kk : Int)) := AL.del_put _ _ _ hcm
        rw [e] at hit11 hS11
        refine hJ (m - 1) _ _ (by omega) ⟨AL.del todo (nm, (kk : Int)), _, by omega, ?_, hit11, htodo', hS11, (hfr9.trans (Fr.pu hp10 : Fr (· ∈ d.own) w9 w10) fun i hi _ => hi).trans hf11 fun i hi _ => by rw [show i = d.c u from hi]; exact d.mem_c hu, ?_⟩
        · rw [hcur]
          exact fm_del hnd hpl hF1 (by rw [hF2, hA]) hoth hk1
        · have := hp10.size; have := hf9.size; have := hF8.size; omega
      · have c3 := dfalse c3
        have hA : shortA n name ((nm, (kk : Int)), pg) = some ((nm, (kk : Int)), shortPg a 32 pg) := by
          have h1 : ¬ (nm ≠ name ∨ ((kk : Int) + 1) * 32 <= (n : Int)) := fun h => h.elim (fun h => h c1) c2
          simp only [shortA]
          rw [if_neg h1, if_neg c3, Int.toNat_natCast, ha]
        refine hJ (m - 1) _ _ (by omega) ⟨AL.del todo (nm, (kk : Int)), _, by omega, ?_, hit9, htodo', hS9, hfr9, ?_⟩
        · rw [hcur]
          exact fm_put hnd hpl hF1 (by rw [hF2, hA]) hoth hk1
        · have := hf9.size; have := hF8.size; omega

def resizeC (name : ByteArray) (n : Int) (σ : Sys) : Int := if enterC 0 name σ = 0 then (if n < 0 then 1 else if n > 65536 then 1 else 0) else enterC 0 name σ
def sized (f : List UInt8) (n : Nat) : List UInt8 := f.take n ++ List.replicate (n - f.length) 0
def shorts (σ : Sys) (name : ByteArray) (n : Nat) : Nat -> Sys
  | 0 => σ
  | u + 1 => shortS (shorts σ name n u) u name n
def resizeS (name : ByteArray) (n : Int) (σ : Sys) : Sys :=
  if resizeC name n σ = 0 then shorts { σ with files := AL.put σ.files name (sized (fileOf σ name) n.toNat) } name n.toNat 4 else σ
theorem shorts_near {σ : Sys} (h : Near σ) (name : ByteArray) (n : Nat) : ∀ u, Near (shorts σ name n u)
  | 0 => h
  | u + 1 => fun v hv q hq => by
    have ih := shorts_near h name n u
    simp only [shorts, shortS, Sys.setCache] at hq
    split at hq
    · rename_i e; subst e
      obtain ⟨q', hq', hA⟩ := List.mem_filterMap.1 hq
      rw [shortA_key hA]; exact ih v hv q' hq'
    · exact ih v hv q hq
theorem resize_c {w : World} {d : Lay} {σ : Sys} (h : SysAt w d 0 σ) (hsm : Small σ) (hne : Near σ) (name : ByteArray) (n : Int) :
    Calls Tryz.prog 24 #[d.ptr, .string name, .int .i64 n] w fun e w' => e = .returned (.int .i64 (resizeC name n σ)) /\ ∃ d', Left w w' d d' (resizeS name n σ) := by
  refine F24_calls _ _ _ w _ ?_
  refine Calls.mono (enter_c h 0 name) ?_
  rintro e w2 ⟨rfl, h2, hf2⟩
  have hf2' : Fr (· ∈ d.own) w w2 := hf2.mono fun i hi _ => by rw [show i = d.S from hi]; exact mem_S d
  have bad : ∀ m : Int, ∀ w3, resizeC name n σ = m -> m ≠ 0 -> SysAt w3 d 1 σ -> Fr (· ∈ d.own) w w3 -> runD Tryz.prog [leaveD d] w3 fun w' => Ending.returned (Value.int .i64 m) = .returned (.int .i64 (resizeC name n σ)) /\ ∃ d', Left w w' d d' (resizeS name n σ) := fun m w3 hm h0 h3 hf3 =>
    leave_left h3 hf3 fun w' hL _ => ⟨by rw [hm], d, by simp only [resizeS, hm, h0, if_false]; exact hL⟩
  refine ⟨_, _, rfl, Br.of (fun he => ?_) (fun he => ?_)⟩
  · have he : enterC 0 name σ ≠ 0 := by simpa using he
    exact bad _ w2 (by simp [resizeC, he]) he h2 hf2'
  · have he : enterC 0 name σ = 0 := by simpa using he
    obtain ⟨_, _, f, hf⟩ := enterC_zero he
    have hfo : fileOf σ name = f := by simp [fileOf, hf]
    have hfl := hsm name f hf
    refine Br.of (fun c1 => bad 1 w2 (by simp [resizeC, he, dtrue c1]) (by decide) h2 hf2') (fun c1 => Br.of (fun c2 => bad 1 w2 (by have := dtrue c2; have := dfalse c1; simp only [resizeC, he, if_true]; rw [if_neg this]; rw [if_pos (dtrue c2)]) (by decide) h2 hf2') (fun c2 => ?_))
    have c1 := dfalse c1
    have c2 := dfalse c2
    have hC : resizeC name n σ = 0 := by simp only [resizeC, he, if_true]; rw [if_neg c1, if_neg c2]
    obtain ⟨m, rfl⟩ := Int.eq_ofNat_of_zero_le (by omega : 0 <= n)
    obtain ⟨w3, hmk, hr3, hp3, hs3⟩ := makeBytes w2 m (by omega)
    have h3 := h2.pu hp3
    obtain ⟨s, hl3, hrs, hgs, hmem, hsl⟩ := look_file h3 hf
    have hlt2 : ∀ b ∈ d.own, b < w2.heap.size := h2.lt
    refine ⟨⟨some ⟨w2.heap.size, 0, none⟩, m, m⟩, w3, hmk, some d.M, h3.cellM, s, w3, hl3, ?_⟩
    obtain ⟨w4, hcp, hr4, hf4, hs4⟩ := row_copy (P := Tryz.prog) (dT := 36) (sT := 36) (ty := 3) u29 (by kernel_rfl) hr3 (by simp) hrs (fun v hv => by obtain ⟨x, _, rfl⟩ := List.mem_map.1 hv; rfl)
    have hnb : ∀ b ∈ d.own, ¬ b ∈ blkOf ⟨some ⟨w2.heap.size, 0, none⟩, m, m⟩ := fun b hb hx => by have := hlt2 b hb; simp [blkOf] at hx; omega
    have h4 := h3.fr hf4 hnb
    refine ⟨_, w4, hcp, some d.M, h4.cellM, ?_⟩
    obtain ⟨w5, hup, hm5, hf5, hs5⟩ := h4.mp.upd keysS u40 name ⟨some ⟨w2.heap.size, 0, none⟩, m, m⟩
    refine ⟨w5, hup, ?_⟩
    have hsz : (f.map u8V).take (min s.len m) ++ ((List.replicate m 0).map u8V).drop (min s.len m) = (sized f m).map u8V := by
      rw [hsl]
      simp only [sized, List.map_append, List.map_take, List.map_replicate, List.drop_replicate]
      by_cases e : f.length <= m
      · rw [Nat.min_eq_left e, List.take_of_length_le (by simp), List.take_of_length_le (by simp; exact e)]
      · rw [Nat.min_eq_right (by omega), show m - f.length = 0 by omega]; simp
    have hr4' : RowAt w4 5 1 ⟨some ⟨w2.heap.size, 0, none⟩, m, m⟩ ((sized f m).map u8V) := by rw [← hsz]; exact hr4
    have h5 := h4.setFile (s' := ⟨some ⟨w2.heap.size, 0, none⟩, m, m⟩) (b' := sized f m) hm5 hf5 hr4' (fun b hb hbo => hnb b hbo hb) (by simp [blkOf])
    have hF5 : Fr (· ∈ d.own) w w5 := ((hf2'.trans (Fr.pu hp3 : Fr (· ∈ d.own) w2 w3) fun i hi _ => hi).trans hf4 fun i hi hlt => by have := hf2'.size; simp [blkOf] at hi; omega).trans hf5 fun i hi _ => by rw [show i = d.M from hi]; exact mem_M d
    generalize hd' : ({ d with fs := AL.put d.fs name ⟨some ⟨w2.heap.size, 0, none⟩, m, m⟩ } : Lay) = d' at h5
    have hS' : d'.S = d.S := by rw [← hd']
    have hown' : ∀ b ∈ d'.own, b ∈ d.own ∨ w.heap.size <= b := fun b hb => by
      rw [← hd'] at hb
      rcases Lay.own_put b hb with h | h
      · exact .inl h
      · have := hf2'.size; simp [blkOf] at h; exact .inr (by omega)
    have hptr : d.ptr = d'.ptr := by simp [Lay.ptr, hS']
    have hlv : leaveD d = leaveD d' := by simp [leaveD, hptr]
    refine loopUp 4 (fun k t w' => t = (k : Int) /\ SysAt w' d' 1 (shorts { σ with files := AL.put σ.files name (sized f m) } name m k) /\ Fr (· ∈ d.own) w w') ⟨rfl, h5, hF5⟩ ?_
    rintro k J t w' hk ⟨rfl, hS, hfr⟩ hJ
    refine Br.of (fun hlt => ?_) (fun hge => ?_)
    · have hlt' : k < 4 := by have := dtrue hlt; omega
      show Calls Tryz.prog 67 #[d.ptr, .int .i64 (k : Int), .string name, .int .i64 (m : Int)] w' _
      rw [hptr]
      refine Calls.mono (shorten_c hS (shorts_near (σ := { σ with files := AL.put σ.files name (sized f m) }) hne name m k) hlt' name (by omega)) ?_
      rintro e w6 ⟨rfl, h6, hf6⟩
      refine ⟨rfl, ?_⟩
      rw [wrap_in (by omega) (by omega)]
      exact hJ _ _ hlt' ⟨by omega, h6, hfr.trans hf6 fun i hi hlt => (hown' i hi).elim id fun h => by omega⟩
    · have hk4 : k = 4 := by have := dfalse hge; omega
      subst hk4
      show runD Tryz.prog [leaveD d] w' _
      rw [hlv]
      refine leave_c hS fun w9 h9 hf9 _ => ⟨by rw [hC], d', ⟨?_, hfr.trans hf9 fun i hi _ => by rw [show i = d'.S from hi, hS']; exact mem_S d, hown', hS'⟩⟩
      simp only [resizeS, hC, if_true, hfo, Int.toNat_natCast]
      exact h9
end Go.Proofs.YtnigfiljenfgjaaGreat

/- The disk: locks. -/
set_option maxRecDepth 100000
set_option linter.unusedVariables false
set_option linter.unusedSimpArgs false
set_option linter.unusedSectionVars false
namespace Go.Proofs.YtnigfiljenfgjaaGreat
open Go.Sh Go.RowKit

def Lock.ok (l : Lock) : Prop := 0 <= l.at_ /\ l.at_ <= 131072 /\ 0 <= l.n /\ l.n <= 131072
def meetsB (name : ByteArray) (at_ n : Int) (l : Lock) : Bool := decide (l.name = name /\ l.at_ < at_ + n /\ at_ < l.at_ + l.n)
def Lock.val (l : Lock) : Value := .agg #[.int .i64 l.u, .string l.name, .int .i64 l.at_, .int .i64 l.n]

theorem meets_c (w : World) (l : Lock) (hl : l.ok) (name : ByteArray) {at_ n : Int} (ha : 0 <= at_ /\ at_ <= 131072) (hn : 0 <= n /\ n <= 131072) :
    Calls Tryz.prog 72 #[l.val, .string name, .int .i64 at_, .int .i64 n] w fun e w' => e = .returned (.bool (meetsB name at_ n l)) /\ Pu w w' := by
  obtain ⟨h1, h2, h3, h4⟩ := hl
  refine F72_calls _ _ _ _ _ _ _ w _ ?_
  refine alE_intro fun w1 hw1 => ?_
  have hp1 : Pu w w1 := by rw [hw1]; exact Pu.alloc w _
  have hb1 : w1.heap[w.heap.size]? = some (.cells #[.int .i64 l.u, .string l.name, .int .i64 l.at_, .int .i64 l.n] 95) := by rw [hw1]; exact alloc_new w _
  refine ⟨l.name, by rw [add_def, cell_blk hb1]; rfl, ?_⟩
  rw [toList_beq]
  refine Br.of (fun c1 => ?_) (fun c1 => ⟨by simp [meetsB, dfalse c1], hp1⟩)
  have c1 := dtrue c1
  refine ⟨l.at_, by rw [add_def, cell_blk hb1]; rfl, ?_⟩
  rw [wrap_in (n := at_ + n) (by omega) (by omega)]
  refine Br.of (fun c2 => ?_) (fun c2 => ⟨by have := dfalse c2; rw [meetsB, decide_eq_false fun h => this h.2.1], hp1⟩)
  have c2 := dtrue c2
  refine ⟨l.at_, by rw [add_def, cell_blk hb1]; rfl, l.n, by rw [add_def, cell_blk hb1]; rfl, ?_, hp1⟩
  rw [wrap_in (n := l.at_ + l.n) (by omega) (by omega)]
  simp only [meetsB, c1, c2, true_and]

structure Tells (v : Value) (D : World -> Prop) (pred : Lock -> Bool) : Prop where
  ex : ∃ fn first cap, v = .func (.func fn) first cap /\ hasBody Tryz.prog fn = true /\ ∀ w (l : Lock), D w -> l.ok ->
    Calls Tryz.prog fn (first.toList ++ (([l.val] : List Value) ++ cap.toList)).toArray w fun e w' => e = .returned (.bool (pred l)) /\ Pu w w'
  stays : ∀ {w w'}, D w -> Pu w w' -> D w'

theorem tells_meets {r7 r8 r9 : Nat} {name : ByteArray} {at_ n : Int} (ha : 0 <= at_ /\ at_ <= 131072) (hn : 0 <= n /\ n <= 131072) :
    Tells (.func (.func 71) #[] #[.pointer (some ⟨r7, 0, none⟩), .pointer (some ⟨r8, 0, none⟩), .pointer (some ⟨r9, 0, none⟩)])
      (fun w => w.heap[r7]? = some (.cells #[.string name] 9) /\ w.heap[r8]? = some (.cells #[.int .i64 at_] 3) /\ w.heap[r9]? = some (.cells #[.int .i64 n] 3)) (meetsB name at_ n) where
  stays := fun h hp => ⟨hp.blk h.1, hp.blk h.2.1, hp.blk h.2.2⟩
  ex := by
    refine ⟨71, #[], _, rfl, by kernel_rfl, ?_⟩
    rintro w l ⟨h7, h8, h9⟩ hl
    refine F71_calls _ _ _ _ _ _ _ w _ ?_
    refine alE_intro fun w1 hw1 => ?_
    have hp1 : Pu w w1 := by rw [hw1]; exact Pu.alloc w _
    have hb1 : w1.heap[w.heap.size]? = some (.cells #[.int .i64 l.u, .string l.name, .int .i64 l.at_, .int .i64 l.n] 95) := by rw [hw1]; exact alloc_new w _
    refine ⟨l.u, by rw [add_def, cell_blk hb1]; rfl, l.name, by rw [add_def, cell_blk hb1]; rfl, l.at_, by rw [add_def, cell_blk hb1]; rfl, l.n, by rw [add_def, cell_blk hb1]; rfl,
      name, by rw [cell_blk (hp1.blk h7)]; rfl, at_, by rw [cell_blk (hp1.blk h8)]; rfl, n, by rw [cell_blk (hp1.blk h9)]; rfl, ?_⟩
    refine Calls.mono (meets_c w1 l hl name ha hn) ?_
    rintro e w2 ⟨rfl, hp2⟩
    exact ⟨_, rfl, rfl, hp1.trans hp2⟩
theorem tells_mine {r6 r7 r8 r9 r13 : Nat} {u : Int} {name : ByteArray} {at_ n : Int} (ha : 0 <= at_ /\ at_ <= 131072) (hn : 0 <= n /\ n <= 131072) :
    Tells (.func (.func 74) #[] #[.pointer (some ⟨r6, 0, none⟩), .pointer (some ⟨r13, 0, none⟩)])
      (fun w => w.heap[r6]? = some (.cells #[.int .i64 u] 3) /\ w.heap[r13]? = some (.cells #[.func (.func 71) #[] #[.pointer (some ⟨r7, 0, none⟩), .pointer (some ⟨r8, 0, none⟩), .pointer (some ⟨r9, 0, none⟩)]] 96) /\
        w.heap[r7]? = some (.cells #[.string name] 9) /\ w.heap[r8]? = some (.cells #[.int .i64 at_] 3) /\ w.heap[r9]? = some (.cells #[.int .i64 n] 3)) (fun l => decide (l.u = u) && meetsB name at_ n l) where
  stays := fun h hp => ⟨hp.blk h.1, hp.blk h.2.1, hp.blk h.2.2.1, hp.blk h.2.2.2.1, hp.blk h.2.2.2.2⟩
  ex := by
    refine ⟨74, #[], _, rfl, by kernel_rfl, ?_⟩
    rintro w l ⟨h6, h13, h789⟩ hl
    refine F74_calls _ _ _ _ _ _ w _ ?_
    refine alE_intro fun w1 hw1 => ?_
    have hp1 : Pu w w1 := by rw [hw1]; exact Pu.alloc w _
    have hb1 : w1.heap[w.heap.size]? = some (.cells #[.int .i64 l.u, .string l.name, .int .i64 l.at_, .int .i64 l.n] 95) := by rw [hw1]; exact alloc_new w _
    refine ⟨l.u, by rw [cell_blk hb1]; rfl, u, by rw [cell_blk (hp1.blk h6)]; rfl, ?_⟩
    refine Br.of (fun c1 => ?_) (fun c1 => ⟨by have : ¬ l.u = u := by simpa using c1
                                               simp [this], hp1⟩)
    have c1 : l.u = u := by simpa using c1
    obtain ⟨fn, first, cap, hv, hbd, hcl⟩ := (tells_meets (r7 := r7) (r8 := r8) (r9 := r9) (name := name) ha hn).ex
    cases hv
    refine ⟨.func (.func 71) #[] #[.pointer (some ⟨r7, 0, none⟩), .pointer (some ⟨r8, 0, none⟩), .pointer (some ⟨r9, 0, none⟩)], by rw [cell_blk (hp1.blk h13)]; rfl, l.u, by rw [add_def, cell_blk hb1]; rfl, l.name, by rw [add_def, cell_blk hb1]; rfl, l.at_, by rw [add_def, cell_blk hb1]; rfl, l.n, by rw [add_def, cell_blk hb1]; rfl, hbd, ?_⟩
    refine Calls.mono (hcl w1 l ⟨hp1.blk h789.1, hp1.blk h789.2.1, hp1.blk h789.2.2⟩ hl) ?_
    rintro e w2 ⟨rfl, hp2⟩
    exact ⟨_, rfl, by simp [c1], hp1.trans hp2⟩

theorem lock_get (ls : List Lock) : ∀ {j : Nat} {l : Lock}, ls[j]? = some l -> ∀ i v, l.cells[i]? = some v -> (ls.flatMap Lock.cells)[j * 4 + i]? = some v := by
  induction ls with
  | nil => intro j l h; simp at h
  | cons q ls ih =>
    intro j l h i v hv
    cases j with
    | zero =>
      simp at h; subst h
      simp only [List.flatMap_cons, Nat.zero_mul, Nat.zero_add]
      rw [List.getElem?_append_left (List.getElem?_eq_some_iff.1 hv).1]; exact hv
    | succ j =>
      have h := ih (by simpa using h) i v hv
      simp only [List.flatMap_cons]
      rw [List.getElem?_append_right (by simp [Lock.cells]; omega)]
      rw [show (j + 1) * 4 + i - q.cells.length = j * 4 + i by simp [Lock.cells]; omega]; exact h
theorem locks_len (ls : List Lock) : (ls.flatMap Lock.cells).length = ls.length * 4 := by
  induction ls with
  | nil => rfl
  | cons p ps ih => simp [Lock.cells, ih]; omega

theorem contains_c {w : World} {s : SV} {ls : List Lock} (hr : RowAt w 95 4 s (ls.flatMap Lock.cells)) (hok : ∀ l ∈ ls, l.ok) (hlen : ls.length <= 1000000) {v : Value} {D : World -> Prop} {pred : Lock -> Bool} (cl : Tells v D pred) (hD : D w) :
    Calls Tryz.prog 73 #[.slice s.a s.len s.cap, v] w fun e w' => e = .returned (.bool (ls.any pred)) /\ Pu w w' := by
  refine F73_calls s v w _ ?_
  have hsl : s.len = ls.length := by have := hr.1; rw [locks_len] at this; omega
  refine Calls.mono (R := fun e w' => ∃ n : Int, e = .returned (.int .i64 n) /\ decide (n ≥ 0) = ls.any pred /\ Pu w w') ?_ fun e w' ⟨n, h1, h2, h3⟩ => ⟨n, h1, by rw [← h2], h3⟩
  refine F98_calls s v w _ ?_
  obtain ⟨fn, first, cap, rfl, hbd, hcl⟩ := cl.ex
  refine loopUp ls.length (fun k t w' => t = (k : Int) /\ Pu w w' /\ ∀ j l, j < k -> ls[j]? = some l -> pred l = false) ⟨rfl, Pu.refl w, fun j l hj => by omega⟩ ?_
  rintro k J t w' hk ⟨rfl, hp, hall⟩ hJ
  rw [hsl]
  refine Br.of (fun hlt => ?_) (fun hge => ?_)
  · have hlt' : k < ls.length := by have := dtrue hlt; omega
    obtain ⟨l, hl⟩ : ∃ l, ls[k]? = some l := ⟨_, List.getElem?_eq_getElem hlt'⟩
    have hlm := List.mem_of_getElem? hl
    obtain ⟨g, hga, hgc, hgb⟩ := (hr.pu hp).base (fun e => by have := locks_len ls; rw [e] at this; simp at this; omega)
    have g0 := hgc _ _ (lock_get ls hl 0 _ rfl)
    have g1 := hgc _ _ (lock_get ls hl 1 _ rfl)
    have g2 := hgc _ _ (lock_get ls hl 2 _ rfl)
    have g3 := hgc _ _ (lock_get ls hl 3 _ rfl)
    refine ⟨⟨g, 0, none⟩, hga, by omega, by omega, l.u, ?_, l.name, ?_, l.at_, ?_, l.n, ?_, hbd, ?_⟩
    · rw [add_def, add_def, ← g0]; congr 2; omega
    · rw [add_def, add_def, ← g1]; congr 2; omega
    · rw [add_def, add_def, ← g2]; congr 2; omega
    · rw [add_def, add_def, ← g3]; congr 2; omega
    refine Calls.mono (hcl w' l (cl.stays hD hp) (hok l hlm)) ?_
    rintro e w2 ⟨rfl, hp2⟩
    refine ⟨_, rfl, Br.of (fun hb => ?_) (fun hb => ?_)⟩
    · refine ⟨_, rfl, ?_, hp.trans hp2⟩
      rw [decide_eq_true (by omega)]
      exact (List.any_eq_true.2 ⟨l, hlm, hb⟩).symm
    · rw [wrap_in (by omega) (by omega)]
      refine hJ _ _ hlt' ⟨by omega, hp.trans hp2, fun j l' hj hl' => ?_⟩
      by_cases e : j = k
      · subst e; rw [hl] at hl'; cases hl'; exact hb
      · exact hall j l' (by omega) hl'
  · have hk' : k = ls.length := by have := dfalse hge; omega
    subst hk'
    refine ⟨-1, rfl, ?_, hp⟩
    rw [decide_eq_false (by decide)]
    symm
    rw [List.any_eq_false]
    intro l hl
    obtain ⟨j, hj, e⟩ := List.getElem_of_mem hl
    have := hall j l hj (by rw [List.getElem?_eq_getElem hj, e])
    simp [this]

theorem u50' : Tryz.prog.underlying 65 = some (.slice 95) := by kernel_rfl
theorem info70 : (Tryz.prog.info? 95).map (fun i => (i.zero, i.size, i.bytes)) = some (some (.agg #[.int .i64 0, .string ⟨#[]⟩, .int .i64 0, .int .i64 0]), 4, 40) := by kernel_rfl
def refreshP (f : List UInt8) (kk m : Nat) (p : Page) : Page := { p with b := fun j => if j < m /\ p.kn j = true /\ p.di j = false then f.getD (kk * 32 + j) 0 else p.b j }
theorem refreshP_zero (f : List UInt8) (kk : Nat) (p : Page) : refreshP f kk 0 p = p := Page.ext' (fun j => by simp [refreshP]) (fun _ => rfl) (fun _ => rfl)
theorem refreshP_step (f : List UInt8) (kk m : Nat) (p : Page) {x : UInt8} (hx : f[kk * 32 + m]? = some x) (hk : p.kn m = true) (hd : p.di m = false) : ({ (refreshP f kk m p) with b := upN (refreshP f kk m p).b m x } : Page) = refreshP f kk (m + 1) p := by
  refine Page.ext' (fun j => ?_) (fun _ => rfl) (fun _ => rfl)
  simp only [upN, refreshP]
  by_cases e : j = m
  · subst e; simp [hk, hd, hx, (List.getElem?_eq_some_iff.1 hx).2, (List.getElem?_eq_some_iff.1 hx).1]
  · have : j < m + 1 ↔ j < m := by omega
    simp [e, this]
theorem refreshP_skip (f : List UInt8) (kk m : Nat) (p : Page) (h : p.kn m = false ∨ p.di m = true) : refreshP f kk m p = refreshP f kk (m + 1) p := by
  refine Page.ext' (fun j => ?_) (fun _ => rfl) (fun _ => rfl)
  simp only [refreshP]
  by_cases e : j = m
  · subst e; rcases h with h | h <;> simp [h]
  · have : j < m + 1 ↔ j < m := by omega
    simp [this]
def refreshS (σ : Sys) (u : Nat) (name : ByteArray) (kk : Nat) : Sys := σ.setCache u (AL.put (σ.caches u) (name, (kk : Int)) (refreshP (fileOf σ name) kk 32 (pageOf σ u (name, (kk : Int)))))
def refAll (u : Nat) (name : ByteArray) : List Place -> Sys -> Sys
  | [], σ => σ
  | p :: ps, σ => refAll u name ps (refreshS σ u name p.2.toNat)
theorem refAll_snoc (u : Nat) (name : ByteArray) (p : Place) : ∀ (ps : List Place) (σ : Sys), refAll u name (ps ++ [p]) σ = refreshS (refAll u name ps σ) u name p.2.toNat
  | [], σ => rfl
  | q :: ps, σ => by simp only [List.cons_append, refAll]; exact refAll_snoc u name p ps _
theorem Good.refresh {σ : Sys} (h : Good σ) {u : Nat} (hu : u < 4) {name : ByteArray} {kk : Nat} (hk : (name, (kk : Int)) ∈ (σ.caches u).map Prod.fst) : Good (refreshS σ u name kk) /\ ∀ v, ((refreshS σ u name kk).caches v).map Prod.fst = (σ.caches v).map Prod.fst := by
  obtain ⟨pg, hg⟩ := AL.get_isSome hk
  have hpg : pageOf σ u (name, (kk : Int)) = pg := by simp [pageOf, hg]
  have hmem : ∀ v, v < 4 -> ∀ q ∈ (refreshS σ u name kk).caches v, ∃ q' ∈ σ.caches v, q'.1 = q.1 /\ q.2.kn = q'.2.kn /\ q.2.di = q'.2.di := by
    intro v hv q hq
    simp only [refreshS, Sys.setCache] at hq
    split at hq
    · rename_i e; subst e
      rcases AL.mem_put hq with h | h
      · exact ⟨((name, (kk : Int)), pg), AL.get_mem hg, by rw [h], by rw [h, hpg]; rfl, by rw [h, hpg]; rfl⟩
      · exact ⟨q, h, rfl, rfl, rfl⟩
    · exact ⟨q, hq, rfl, rfl, rfl⟩
  refine ⟨⟨fun x g hx => h.small x g hx, fun v hv q hq => ?_, fun v hv => ?_, fun v hv q hq => ?_⟩, fun v => ?_⟩
  · obtain ⟨q', hq', he, _⟩ := hmem v hv q hq; rw [← he]; exact h.near v hv _ hq'
  · simp only [refreshS, Sys.setCache]
    split
    · rename_i e; subst e; rw [AL.length_put_old (by rw [hg]; simp)]; exact h.cnt _ hv
    · exact h.cnt v hv
  · obtain ⟨q', hq', he, hk, hd⟩ := hmem v hv q hq
    obtain ⟨g, hg1, hg2⟩ := h.file v hv q' hq'
    refine ⟨g, by rw [← he]; exact hg1, fun i hi' hkd => ?_⟩
    rw [← he]; rw [hk, hd] at hkd; exact hg2 i hi' hkd
  · simp only [refreshS, Sys.setCache]
    split
    · rename_i e; subst e
      obtain ⟨l1, l2, h1, h2⟩ := AL.put_split hg
      rw [h2, h1]; simp
    · rfl
theorem refAll_good {u : Nat} (hu : u < 4) {name : ByteArray} {σ : Sys} (h : Good σ) : ∀ (ps : List Place), (∀ p ∈ ps, p ∈ (σ.caches u).map Prod.fst /\ p.1 = name) -> Good (refAll u name ps σ) /\ (∀ v, ((refAll u name ps σ).caches v).map Prod.fst = (σ.caches v).map Prod.fst) /\ (refAll u name ps σ).files = σ.files /\ (refAll u name ps σ).locks = σ.locks
  | [], _ => ⟨h, fun _ => rfl, rfl, rfl⟩
  | p :: ps, hp => by
    obtain ⟨hk, hnm⟩ := hp p (by simp)
    obtain ⟨nm, q⟩ := p
    have hnm : nm = name := hnm
    subst hnm
    obtain ⟨pg, hg⟩ := AL.get_isSome hk
    have hq := (h.near u hu _ (AL.get_mem hg)).1
    simp only at hq
    obtain ⟨kk, rfl⟩ := Int.eq_ofNat_of_zero_le hq
    obtain ⟨hG, hK⟩ := h.refresh hu hk
    have := refAll_good hu hG ps fun p' hp' => ⟨by rw [hK]; exact (hp p' (by simp [hp'])).1, (hp p' (by simp [hp'])).2⟩
    exact ⟨this.1, fun v => (this.2.1 v).trans (hK v), this.2.2.1, this.2.2.2⟩

theorem SysAt.setLocks {w w' : World} {d : Lay} {mu : Int} {σ : Sys} (h : SysAt w d mu σ) {ls' : SV} {locks' : List Lock} (hr : RowAt w' 95 4 ls' (locks'.flatMap Lock.cells)) (hf : Fr (fun b => b ∈ blkOf d.ls ∨ b = d.S) w w')
    (hS : w'.heap[d.S]? = some (.cells #[.int .i32 mu, .int .u32 0, .map (some d.M), .map (some (d.c 0)), .map (some (d.c 1)), .map (some (d.c 2)), .map (some (d.c 3)), .slice ls'.a ls'.len ls'.cap] 67))
    (hb : ∀ b ∈ blkOf ls', b ∈ blkOf d.ls ∨ b ∉ d.own) : SysAt w' { d with ls := ls' } mu { σ with locks := locks' } := by
  obtain ⟨n1, n2, n3, n4, n5⟩ := h.ne
  refine ⟨hS, h.mp.fr hf ?_, h.fl.fr hf fun p hp k hk => ?_, fun u hu => (h.ca u hu).fr hf ?_, hr, ?_⟩
  · rintro (hx | hx)
    · exact (n4 _ hx).2.1 rfl
    · exact n1 hx.symm
  · rintro (hx | hx)
    · exact (n4 _ hx).2.2.2 p hp hk
    · exact (n5 p hp k hk).1 hx
  · rintro (hx | hx)
    · exact (n4 _ hx).2.2.1 u hu rfl
    · exact (n2 u hu).1 hx.symm
  · have hnd := h.nd
    have hone : (blkOf ls').Nodup := by unfold blkOf; split <;> simp
    have hx : ∀ b ∈ blkOf ls', b ∈ d.S :: d.M :: d.c 0 :: d.c 1 :: d.c 2 :: d.c 3 :: d.fs.flatMap (fun p => blkOf p.2) -> False := fun b hb' hx => by
      rcases hb b hb' with h4 | h4
      · have n4b := n4 b h4
        simp only [List.mem_cons, List.mem_flatMap] at hx
        rcases hx with hx | hx | hx | hx | hx | hx | ⟨p, hp, hx⟩
        · exact n4b.1 hx
        · exact n4b.2.1 hx
        · exact n4b.2.2.1 0 (by omega) hx
        · exact n4b.2.2.1 1 (by omega) hx
        · exact n4b.2.2.1 2 (by omega) hx
        · exact n4b.2.2.1 3 (by omega) hx
        · exact n4b.2.2.2 p hp hx
      · refine h4 ?_
        simp only [Lay.own, List.mem_cons, List.mem_append] at hx ⊢
        rcases hx with hx | hx | hx | hx | hx | hx | hx <;> simp [hx]
    have hsub : (d.S :: d.M :: d.c 0 :: d.c 1 :: d.c 2 :: d.c 3 :: d.fs.flatMap (fun p => blkOf p.2)).Nodup := by
      refine List.Nodup.sublist ?_ hnd
      simp only [Lay.own]
      repeat' refine List.Sublist.cons_cons _ ?_
      exact List.sublist_append_right _ _
    have hperm : ({ d with ls := ls' } : Lay).own.Perm (blkOf ls' ++ (d.S :: d.M :: d.c 0 :: d.c 1 :: d.c 2 :: d.c 3 :: d.fs.flatMap (fun p => blkOf p.2))) := by
      simp only [Lay.own]
      rw [show d.S :: d.M :: d.c 0 :: d.c 1 :: d.c 2 :: d.c 3 :: (blkOf ls' ++ d.fs.flatMap (fun p => blkOf p.2)) = [d.S, d.M, d.c 0, d.c 1, d.c 2, d.c 3] ++ (blkOf ls' ++ d.fs.flatMap (fun p => blkOf p.2)) by rfl,
        show blkOf ls' ++ (d.S :: d.M :: d.c 0 :: d.c 1 :: d.c 2 :: d.c 3 :: d.fs.flatMap (fun p => blkOf p.2)) = blkOf ls' ++ ([d.S, d.M, d.c 0, d.c 1, d.c 2, d.c 3] ++ d.fs.flatMap (fun p => blkOf p.2)) by rfl, ← List.append_assoc, ← List.append_assoc]
      exact List.Perm.append_right _ List.perm_append_comm
    exact hperm.nodup_iff.2 (List.nodup_append.2 ⟨hone, hsub, fun a ha b hb' e => hx a ha (by rw [e]; exact hb')⟩)
end Go.Proofs.YtnigfiljenfgjaaGreat

/- The disk: taking a lock. -/
set_option maxRecDepth 100000
set_option linter.unusedVariables false
set_option linter.unusedSimpArgs false
set_option linter.unusedSectionVars false
namespace Go.Proofs.YtnigfiljenfgjaaGreat
open Go.Sh Go.RowKit

def LocksOk (σ : Sys) : Prop := (∀ l ∈ σ.locks, l.ok) /\ σ.locks.length <= 1000000
def lockC (u : Int) (name : ByteArray) (at_ n : Int) (σ : Sys) : Int :=
  if enterC u name σ = 0 then (if at_ < 0 then 1 else if n < 1 then 1 else if at_ > 131072 then 1 else if n > 131072 - at_ then 1 else
    if σ.locks.any (fun l => decide (l.u = u) && meetsB name at_ n l) then 5 else if σ.locks.any (meetsB name at_ n) then 12 else 0) else enterC u name σ
def locked (u : Int) (name : ByteArray) (at_ n : Int) (σ : Sys) : Sys := { σ with locks := σ.locks ++ [⟨u, name, at_, n⟩] }

theorem lock_c {w : World} {d : Lay} {σ : Sys} (h : SysAt w d 0 σ) (hG : Good σ) (hL : LocksOk σ) (u : Int) (name : ByteArray) (at_ n : Int) :
    Calls Tryz.prog 27 #[d.ptr, .int .i64 u, .string name, .int .i64 at_, .int .i64 n] w fun e w' => e = .returned (.int .i64 (lockC u name at_ n σ)) /\
      ((lockC u name at_ n σ ≠ 0 /\ Left w w' d d σ) ∨ (lockC u name at_ n σ = 0 /\ ∃ d' ps, ps.Perm (((σ.caches u.toNat).map Prod.fst).filter (inPages name at_ n)) /\ Left w w' d d' (refAll u.toNat name ps (locked u name at_ n σ)))) := by
  refine F27_calls _ _ _ _ _ w _ ?_
  refine alE_intro fun w1 hw1 => alE_intro fun w2 hw2 => alE_intro fun w3 hw3 => alE_intro fun w4 hw4 => ?_
  have hp1 : Pu w w1 := by rw [hw1]; exact Pu.alloc w _
  have hp2 : Pu w1 w2 := by rw [hw2]; exact Pu.alloc w1 _
  have hp3 : Pu w2 w3 := by rw [hw3]; exact Pu.alloc w2 _
  have hp4 : Pu w3 w4 := by rw [hw4]; exact Pu.alloc w3 _
  have hs1 : w1.heap.size = w.heap.size + 1 := by rw [hw1]; simp
  have hs2 : w2.heap.size = w.heap.size + 2 := by rw [hw2]; simp [hs1]
  have hs3 : w3.heap.size = w.heap.size + 3 := by rw [hw3]; simp [hs2]
  have hs4 : w4.heap.size = w.heap.size + 4 := by rw [hw4]; simp [hs3]
  have hP4 : Pu w w4 := ((hp1.trans hp2).trans hp3).trans hp4
  have hlt : ∀ b ∈ d.own, b < w.heap.size := h.lt
  -- the four variables
  let Box : World -> Prop := fun v => v.heap[w.heap.size]? = some (.cells #[.int .i64 u] 3) /\ v.heap[w1.heap.size]? = some (.cells #[.string name] 9) /\ v.heap[w2.heap.size]? = some (.cells #[.int .i64 at_] 3) /\ v.heap[w3.heap.size]? = some (.cells #[.int .i64 n] 3)
  have hB4 : Box w4 := ⟨hp4.blk (hp3.blk (hp2.blk (by rw [hw1]; exact alloc_new w _))), hp4.blk (hp3.blk (by rw [hw2]; exact alloc_new w1 _)), hp4.blk (by rw [hw3]; exact alloc_new w2 _), by rw [hw4]; exact alloc_new w3 _⟩
  have hBfr : ∀ {B : Nat -> Prop} {a b : World}, Box a -> Fr B a b -> (∀ k, B k -> k < w.heap.size ∨ w.heap.size + 4 <= k) -> Box b := fun {B a b} hb hf hB =>
    ⟨hf.blk hb.1 fun hx => by have := hB _ hx; omega, hf.blk hb.2.1 fun hx => by have := hB _ hx; omega, hf.blk hb.2.2.1 fun hx => by have := hB _ hx; omega, hf.blk hb.2.2.2 fun hx => by have := hB _ hx; omega⟩
  have hBpu : ∀ {a b : World}, Box a -> Pu a b -> Box b := fun {a b} hb hp => hBfr hb (Fr.pu hp : Fr (fun _ => False) a b) fun _ h => h.elim
  refine ⟨u, by rw [cell_blk hB4.1]; rfl, name, by rw [cell_blk hB4.2.1]; rfl, ?_⟩
  refine Calls.mono (enter_c (h.pu hP4) u name) ?_
  rintro e w5 ⟨rfl, h5, hf5⟩
  have hF5 : Fr (· ∈ d.own) w w5 := (Fr.pu hP4 : Fr (· ∈ d.own) w w4).trans hf5 fun i hi _ => by rw [show i = d.S from hi]; exact mem_S d
  have hB5 : Box w5 := hBfr hB4 hf5 fun k hk => .inl (by rw [show k = d.S from hk]; exact hlt _ (mem_S d))
  have bad : ∀ m : Int, ∀ w6, lockC u name at_ n σ = m -> m ≠ 0 -> SysAt w6 d 1 σ -> Fr (· ∈ d.own) w w6 -> runD Tryz.prog [leaveD d] w6 fun w' => Ending.returned (Value.int .i64 m) = .returned (.int .i64 (lockC u name at_ n σ)) /\
      ((lockC u name at_ n σ ≠ 0 /\ Left w w' d d σ) ∨ (lockC u name at_ n σ = 0 /\ ∃ d' ps, ps.Perm (((σ.caches u.toNat).map Prod.fst).filter (inPages name at_ n)) /\ Left w w' d d' (refAll u.toNat name ps (locked u name at_ n σ)))) := fun m w6 hm h0 h6 hf6 =>
    leave_left h6 hf6 fun w' hLf _ => ⟨by rw [hm], .inl ⟨by rw [hm]; exact h0, hLf⟩⟩
  refine ⟨_, _, rfl, Br.of (fun he => ?_) (fun he => ?_)⟩
  · have he : enterC u name σ ≠ 0 := by simpa using he
    exact bad _ w5 (by simp [lockC, he]) he h5 hF5
  have he : enterC u name σ = 0 := by simpa using he
  obtain ⟨hu0, hu4, f, hf⟩ := enterC_zero he
  have hfo : fileOf σ name = f := by simp [fileOf, hf]
  have hfl := hG.small name f hf
  obtain ⟨un, rfl⟩ := Int.eq_ofNat_of_zero_le hu0
  have hun : un < 4 := by omega
  have hC : ∀ m : Int, (if at_ < 0 then 1 else if n < 1 then 1 else if at_ > 131072 then 1 else if n > 131072 - at_ then 1 else
    if σ.locks.any (fun l => decide (l.u = (un : Int)) && meetsB name at_ n l) then 5 else if σ.locks.any (meetsB name at_ n) then 12 else 0) = m -> lockC (un : Int) name at_ n σ = m := fun m hm => by simp only [lockC, he, if_true]; exact hm
  refine ⟨at_, by rw [cell_blk hB5.2.2.1]; rfl, Br.of (fun c1 => bad 1 w5 (hC 1 (by rw [if_pos (dtrue c1)])) (by decide) h5 hF5) (fun c1 => ?_)⟩
  have c1 := dfalse c1
  refine ⟨n, by rw [cell_blk hB5.2.2.2]; rfl, Br.of (fun c2 => bad 1 w5 (hC 1 (by rw [if_neg c1, if_pos (dtrue c2)])) (by decide) h5 hF5) (fun c2 => ?_)⟩
  have c2 := dfalse c2
  refine ⟨at_, by rw [cell_blk hB5.2.2.1]; rfl, Br.of (fun c3 => bad 1 w5 (hC 1 (by rw [if_neg c1, if_neg c2, if_pos (dtrue c3)])) (by decide) h5 hF5) (fun c3 => ?_)⟩
  have c3 := dfalse c3
  refine ⟨n, by rw [cell_blk hB5.2.2.2]; rfl, at_, by rw [cell_blk hB5.2.2.1]; rfl, ?_⟩
  rw [wrap_in (n := (131072 : Int) - at_) (by omega) (by omega)]
  refine Br.of (fun c4 => bad 1 w5 (hC 1 (by rw [if_neg c1, if_neg c2, if_neg c3, if_pos (dtrue c4)])) (by decide) h5 hF5) (fun c4 => ?_)
  have c4 := dfalse c4
  have ha : 0 <= at_ /\ at_ <= 131072 := by omega
  have hn : 0 <= n /\ n <= 131072 := by omega
  refine alE_intro fun w6 hw6 => ?_
  have hp6 : Pu w5 w6 := by rw [hw6]; exact Pu.alloc w5 _
  have hb6 : w6.heap[w5.heap.size]? = some (.cells #[.nilFunc] 96) := by rw [hw6]; exact alloc_new w5 _
  have hs5 : w.heap.size + 4 <= w5.heap.size := by have := hf5.size; omega
  refine st1_intro hb6 (by decide) fun w7 hw7 hb7 => ?_
  have hf7 : Fr (· = w5.heap.size) w6 w7 := by rw [hw7]; exact Fr.cell w6 _ _ _
  have hP7 : Pu w5 w7 := hp6.andNew hf7 fun i hi => by omega
  have h7 := h5.pu hP7
  have hB7 := hBpu hB5 hP7
  have hF7 : Fr (· ∈ d.own) w w7 := hF5.trans (Fr.pu hP7 : Fr (· ∈ d.own) w5 w7) fun i hi _ => hi
  refine ⟨d.ls, h7.cellL, ?_⟩
  refine Calls.mono (contains_c h7.lk hL.1 hL.2 (tells_mine (u := (un : Int)) (r7 := w1.heap.size) (r8 := w2.heap.size) (r9 := w3.heap.size) ha hn) ⟨hB7.1, hb7, hB7.2.1, hB7.2.2.1, hB7.2.2.2⟩) ?_
  rintro e w8 ⟨rfl, hp8⟩
  have h8 := h7.pu hp8
  have hB8 := hBpu hB7 hp8
  have hF8 : Fr (· ∈ d.own) w w8 := hF7.trans (Fr.pu hp8 : Fr (· ∈ d.own) w7 w8) fun i hi _ => hi
  refine ⟨_, rfl, Br.of (fun c5 => bad 5 w8 (hC 5 (by rw [if_neg c1, if_neg c2, if_neg c3, if_neg c4, if_pos c5])) (by decide) h8 hF8) (fun c5 => ?_)⟩
  refine dwE_intro fun w9 hp9 hh9 => ?_
  have h9 := h8.pu hp9
  have hB9 := hBpu hB8 hp9
  have hb9 := hp9.blk (hp8.blk hb7)
  have hF9 : Fr (· ∈ d.own) w w9 := hF8.trans (Fr.pu hp9 : Fr (· ∈ d.own) w8 w9) fun i hi _ => hi
  refine ⟨d.ls, h9.cellL, .func (.func 71) #[] #[.pointer (some ⟨w1.heap.size, 0, none⟩), .pointer (some ⟨w2.heap.size, 0, none⟩), .pointer (some ⟨w3.heap.size, 0, none⟩)], by rw [cell_blk hb9]; rfl, ?_⟩
  refine Calls.mono (contains_c h9.lk hL.1 hL.2 (tells_meets (r7 := w1.heap.size) (r8 := w2.heap.size) (r9 := w3.heap.size) (name := name) ha hn) ⟨hB9.2.1, hB9.2.2.1, hB9.2.2.2⟩) ?_
  rintro e w10 ⟨rfl, hp10⟩
  have h10 := h9.pu hp10
  have hB10 := hBpu hB9 hp10
  have hF10 : Fr (· ∈ d.own) w w10 := hF9.trans (Fr.pu hp10 : Fr (· ∈ d.own) w9 w10) fun i hi _ => hi
  have c5' : ¬ σ.locks.any (fun l => decide (l.u = (un : Int)) && meetsB name at_ n l) = true := by rw [c5]; simp
  refine ⟨_, rfl, Br.of (fun c6 => bad 12 w10 (hC 12 (by rw [if_neg c1, if_neg c2, if_neg c3, if_neg c4, if_neg c5', if_pos c6])) (by decide) h10 hF10) (fun c6 => ?_)⟩
  have c6' : ¬ σ.locks.any (meetsB name at_ n) = true := by rw [c6]; simp
  have hC0 : lockC (un : Int) name at_ n σ = 0 := hC 0 (by rw [if_neg c1, if_neg c2, if_neg c3, if_neg c4, if_neg c5', if_neg c6'])
  refine dwE_intro fun w11 hp11 hh11 => ?_
  have h11 := h10.pu hp11
  have hB11 := hBpu hB10 hp11
  refine ⟨fun v => SysAt v d 1 σ /\ Box v, ⟨h11, hB11⟩, d.ls, fun v hv => hv.1.cellL, (un : Int), fun v hv => by rw [cell_blk hv.2.1]; rfl, name, fun v hv => by rw [cell_blk hv.2.2.1]; rfl, at_, fun v hv => by rw [cell_blk hv.2.2.2.1]; rfl, n, fun v hv => by rw [cell_blk hv.2.2.2.2]; rfl, ?_⟩
  refine alE_intro fun w12 hw12 => ?_
  have hp12 : Pu w11 w12 := by rw [hw12]; exact Pu.alloc w11 _
  have hb12 : w12.heap[w11.heap.size]? = some (.cells #[.int .i64 (un : Int), .string name, .int .i64 at_, .int .i64 n] 95) := by rw [hw12]; exact alloc_new w11 _
  have h12 := h11.pu hp12
  have hB12 := hBpu hB11 hp12
  refine ⟨⟨h12, hB12⟩, ?_⟩
  have hF12 : Fr (· ∈ d.own) w w12 := (hF10.trans (Fr.pu hp11 : Fr (· ∈ d.own) w10 w11) fun i hi _ => hi).trans (Fr.pu hp12 : Fr (· ∈ d.own) w11 w12) fun i hi _ => hi
  obtain ⟨i, hi, hz, hsz, hby⟩ := info_parts info70
  have hll : d.ls.len = σ.locks.length := by have := h12.lk.1; rw [locks_len] at this; omega
  have hL2 := hL.2
  obtain ⟨s', w13, hra, hrow', hf13, hblk13, hlen13⟩ := row_append (P := Tryz.prog) (ty := 65) u50' hi hz hsz (by rfl) (by decide) h12.lk (a := ⟨w11.heap.size, 0, none⟩) (m := 1) (c := 1) (news := (⟨(un : Int), name, at_, n⟩ : Lock).cells) (by rfl) (fun j v hv => by
      rw [add_def, cell_blk hb12, Nat.zero_add]
      simpa [Lock.cells] using hv) (by simp [Lock.cells, Value.oneCell']) (by rw [hby]; omega)
  refine ⟨s', w13, hra, ?_⟩
  obtain ⟨n1, n2, n3, n4, n5⟩ := h12.ne
  have hS13 := hf13.blk h12.st fun hb => (n4 _ hb).1 rfl
  have hlsown : ∀ b ∈ blkOf d.ls, b ∈ d.own := fun b hb => by simp only [Lay.own, List.mem_cons, List.mem_append]; exact .inr (.inr (.inr (.inr (.inr (.inr (.inl hb))))))
  have hB13 : Box w13 := hBfr hB12 hf13 fun k hk => .inl (hlt k (hlsown k hk))
  rw [ptrE_some, add_def]
  refine st1_intro hS13 (by simp) fun w14 hw14 hb14 => ?_
  have hf14 : Fr (· = d.S) w13 w14 := by rw [hw14]; exact Fr.cell w13 _ _ _
  have hS'S : d.S ∉ blkOf s' := fun hb => by
    rcases hblk13 _ hb with hb | hb
    · exact (n4 _ hb).1 rfl
    · have := hlt _ (mem_S d); have := hF12.size; omega
  have h14 : SysAt w14 { d with ls := s' } 1 (locked (un : Int) name at_ n σ) := by
    refine h12.setLocks (ls' := s') (locks' := σ.locks ++ [⟨(un : Int), name, at_, n⟩]) ?_ ((hf13.mono fun i hi _ => .inl hi).trans hf14 fun i hi _ => .inr hi) (by rw [hb14]; rfl) fun b hb => (hblk13 b hb).elim .inl fun hb' => .inr fun ho => by have := hlt b ho; have := hF12.size; omega
    rw [List.flatMap_append]
    refine RowAt.fr ?_ hf14 fun b hb e => hS'S (by rw [← show b = d.S from e]; exact hb)
    simpa using hrow'
  have hB14 : Box w14 := hBfr hB13 hf14 fun k hk => .inl (by rw [show k = d.S from hk]; exact hlt _ (mem_S d))
  have hF14 : Fr (· ∈ d.own) w w14 := (hF12.trans hf13 fun i hi _ => hlsown i hi).trans hf14 fun i hi _ => by rw [show i = d.S from hi]; exact mem_S d
  generalize hd' : ({ d with ls := s' } : Lay) = d' at h14
  have hS' : d'.S = d.S := by rw [← hd']
  have hown' : ∀ b ∈ d'.own, b ∈ d.own ∨ w.heap.size + 4 <= b := fun b hb => by
    rw [← hd'] at hb
    simp only [Lay.own, List.mem_cons, List.mem_append] at hb ⊢
    rcases hb with hb | hb | hb | hb | hb | hb | hb | hb
    · simp [hb]
    · simp [hb]
    · simp [hb]
    · simp [hb]
    · simp [hb]
    · simp [hb]
    · rcases hblk13 b hb with hb | hb
      · simp [hb]
      · exact .inr (by have := (hF10.trans (Fr.pu hp11 : Fr (· ∈ d.own) w10 w11) fun i hi _ => hi).size; have := hp12.size; have := hf5.size; have := hP7.size; have := hp8.size; have := hp9.size; have := hp10.size; have := hp11.size; omega)
    · simp [hb]
  have hptr : d.ptr = d'.ptr := by simp [Lay.ptr, hS']
  have hlv : leaveD d = leaveD d' := by simp [leaveD, hptr]
  have hG' : Good (locked (un : Int) name at_ n σ) := ⟨hG.small, hG.near, hG.cnt, hG.file⟩
  refine ⟨(un : Int), by rw [cell_blk hB14.1]; rfl, name, by rw [cell_blk hB14.2.1]; rfl, at_, by rw [cell_blk hB14.2.2.1]; rfl, n, by rw [cell_blk hB14.2.2.2]; rfl, ?_⟩
  show Calls Tryz.prog 69 #[d.ptr, .int .i64 (un : Int), .string name, .int .i64 at_, .int .i64 n] w14 _
  rw [hptr]
  refine Calls.mono (pages_c h14 hG'.near hun name (by omega) (by omega) (hG'.cnt un hun)) ?_
  rintro e w15 ⟨l, ps, rfl, hrow, hperm, hp15, hblk⟩
  refine ⟨l, rfl, ?_⟩
  have hflen := flat_len ps
  have hl : l.len = ps.length := by have := hrow.1; omega
  rw [hl]
  have hps : ∀ p ∈ ps, p ∈ ((locked (un : Int) name at_ n σ).caches un).map Prod.fst /\ p.1 = name := fun p hp => by
    obtain ⟨h1, h2⟩ := List.mem_filter.1 (hperm.mem_iff.1 hp)
    exact ⟨h1, (of_decide_eq_true h2).1⟩
  have hcnt : ps.length <= 1000000 := by
    have h1 := hperm.length_eq
    have h2 := List.length_filter_le (inPages name at_ n) (((locked (un : Int) name at_ n σ).caches un).map Prod.fst)
    have h3 := hG'.cnt un hun
    simp at h2; omega
  have hlt14 : ∀ b ∈ d'.own, b < w14.heap.size := h14.lt
  have hs14 : w.heap.size + 4 <= w14.heap.size := by have := hB14.2.2.2; have := blk_lt this; omega
  refine loopUp ps.length (fun k t w' => t = (k : Int) /\ SysAt w' d' 1 (refAll un name (ps.take k) (locked (un : Int) name at_ n σ)) /\ RowAt w' 92 2 l (ps.flatMap placeCells) /\ Box w' /\ Fr (· ∈ d.own) w w' /\ w14.heap.size <= w'.heap.size)
    ⟨rfl, h14.pu hp15, hrow, hBpu hB14 hp15, hF14.trans (Fr.pu hp15 : Fr (· ∈ d.own) w14 w15) fun i hi _ => hi, hp15.size⟩ ?_
  rintro k J t w' hk ⟨rfl, hS, hrw, hBx, hfr, hsz'⟩ hJ
  refine Br.of (fun hlt2 => ?_) (fun hge => ?_)
  · have hlt' : k < ps.length := by have := dtrue hlt2; omega
    obtain ⟨p, hp⟩ : ∃ p, ps[k]? = some p := ⟨_, List.getElem?_eq_getElem hlt'⟩
    obtain ⟨g1, g2⟩ := flat_get ps hp
    obtain ⟨g, hga, hgc, hgb⟩ := hrw.base (fun e => by rw [e] at g1; simp at g1)
    have hpk := hps p (List.mem_of_getElem? hp)
    obtain ⟨nm, q⟩ := p
    have hnm : nm = name := hpk.2
    obtain ⟨pg0, hg0⟩ := AL.get_isSome hpk.1
    have hq := (hG'.near un hun _ (AL.get_mem hg0)).1
    simp only at hq
    obtain ⟨kk, rfl⟩ := Int.eq_ofNat_of_zero_le hq
    obtain ⟨hGk, hKk, hFk, hLk⟩ := refAll_good hun hG' (ps.take k) (name := name) fun p' hp' => hps p' (List.mem_of_mem_take hp')
    generalize hσk : refAll un name (ps.take k) (locked (un : Int) name at_ n σ) = σk at hS hGk hKk hFk hLk
    rw [hnm] at g1 hp hpk
    obtain ⟨b1, f', hf', hfl', hfi'⟩ := hGk.page hun (name := name) (kk := kk) (by rw [hKk]; exact hpk.1)
    have hff : f' = f := by rw [hFk] at hf'; have : AL.get (locked (un : Int) name at_ n σ).files name = some f := hf; rw [this] at hf'; cases hf'; rfl
    subst hff
    have hfok : fileOf σk name = f' := by simp [fileOf, hf']
    generalize hpg : pageOf σk un (name, (kk : Int)) = pg at hfi'
    refine ⟨⟨g, 0, none⟩, hga, by omega, by omega, name, ?_, (kk : Int), ?_, ?_⟩
    · rw [add_def, add_def]; rw [← hgc (k * 2) _ g1]; congr 2; omega
    · rw [add_def, add_def]; rw [← hgc (k * 2 + 1) _ g2]; congr 2; omega
    refine alE_intro fun v1 hv1 => ?_
    have hq1 : Pu w' v1 := by rw [hv1]; exact Pu.alloc w' _
    have hbv1 : v1.heap[w'.heap.size]? = some (.cells #[.string ⟨#[]⟩, .int .i64 0] 92) := by rw [hv1]; exact alloc_new w' _
    refine stA_fill hbv1 (by rw [size66]; rfl) rfl rfl fun v2 hbv2 hfv2 hsv2 => ?_
    have hPv2 : Pu w' v2 := hq1.andNew hfv2 fun i hi => by omega
    have hsv1 : v1.heap.size = w'.heap.size + 1 := by rw [hv1]; simp
    refine dwE_intro fun v3 hpv3 hhv3 => ?_
    have hPv3 := hPv2.trans hpv3
    have hS3 := hS.pu hPv3
    have hB3 := hBpu hBx hPv3
    have hbv3 := hpv3.blk hbv2
    refine ⟨fun v => SysAt v d' 1 σk /\ Box v /\ v.heap[w'.heap.size]? = some (.cells #[.string name, .int .i64 (kk : Int)] 92), ⟨hS3, hB3, hbv3⟩, (un : Int), fun v hv => by rw [cell_blk hv.2.1.1]; rfl, by omega, by omega, some (d'.c un), fun v hv => ?_, name, fun v hv => by rw [add_def, cell_blk hv.2.2]; rfl, (kk : Int), fun v hv => by rw [add_def, cell_blk hv.2.2]; rfl, pg.cells, Page.size_cells _, fun v hv => ?_, ?_⟩
    · have := hv.1.cellC hun; rw [hS'] at this; simpa using this
    · have := look_page hv.1 hun (name, (kk : Int)); rw [hpg] at this; exact this
    refine alE_intro fun v4 hv4 => ?_
    have hq4 : Pu v3 v4 := by rw [hv4]; exact Pu.alloc v3 _
    have hbv4 : v4.heap[v3.heap.size]? = some (.cells (zc Tryz.prog 89) 89) := by rw [hv4]; exact alloc_new v3 _
    refine ⟨⟨hS3.pu hq4, hBpu hB3 hq4, hq4.blk hbv3⟩, ?_⟩
    refine stA_fill hbv4 (by rw [Page.size_cells, size61]) (by rw [zero61, Page.size_cells, Page.size_cells]) (Page.one _) fun v5 hbv5 hfv5 hsv5 => ?_
    have hPv5 : Pu w' v5 := (hPv3.trans hq4).andNew hfv5 fun i hi => by have := hPv3.size; omega
    have hS5 := hS.pu hPv5
    have hB5' := hBpu hBx hPv5
    have hs3' : w'.heap.size + 1 <= v3.heap.size := by have := hpv3.size; omega
    have hbv25 : v5.heap[w'.heap.size]? = some (.cells #[.string name, .int .i64 (kk : Int)] 92) := hfv5.blk (hq4.blk hbv3) (by omega)
    have hlt'' : ∀ b ∈ d'.own, b < w'.heap.size := hS.lt
    -- its known, clean bytes are read anew
    refine loopUp 32 (fun m t v6 => t = (m : Int) /\ v6.heap[v3.heap.size]? = some (.cells (refreshP f' kk m pg).cells 89) /\ Fr (· = v3.heap.size) v5 v6) ⟨rfl, by rw [refreshP_zero]; exact hbv5, Fr.refl _ _⟩ ?_
    rintro m J2 t v6 hm ⟨rfl, hbv6, hfv6⟩ hJ2
    have hS6 : SysAt v6 d' 1 σk := hS5.fr hfv6 fun b hb e => by have := hlt'' b hb; omega
    have hB6 : Box v6 := hBfr hB5' hfv6 fun k hk => .inr (by omega)
    have hbv26 : v6.heap[w'.heap.size]? = some (.cells #[.string name, .int .i64 (kk : Int)] 92) := hfv6.blk hbv25 (by omega)
    refine Br.of (fun hm1 => ?_) (fun hm1 => ?_)
    · have hm32 : m < 32 := by have := dtrue hm1; omega
      have skip : (pg.kn m = false ∨ pg.di m = true) -> J2 (IntKind.i64.wrap ((m : Int) + 1)) v6 := fun hsk => by
        rw [wrap_in (by omega) (by omega)]
        exact hJ2 _ _ hm32 ⟨by omega, by rw [hbv6, refreshP_skip _ _ _ _ hsk], hfv6⟩
      refine ⟨by omega, by omega, pg.kn m, by rw [add_def, add_def, cell_blk hbv6, show 0 + 32 + (m : Int).toNat * 1 = 32 + m by omega]; exact Page.get_kn _ hm32, Br.of (fun hkn => ?_) (fun hkn => skip (.inl hkn))⟩
      refine ⟨by omega, by omega, pg.di m, by rw [add_def, add_def, cell_blk hbv6, show 0 + 64 + (m : Int).toNat * 1 = 64 + m by omega]; exact Page.get_di _ hm32, Br.of (fun hdi => ?_) (fun hdi => skip (.inr (by simpa using hdi)))⟩
      have hdi : pg.di m = false := by simpa using hdi
      have hin := hfi' m hm32 (.inl hkn)
      refine dwE_intro fun v7 hpv7 hhv7 => ?_
      have hS7 := hS6.pu hpv7
      have hB7' := hBpu hB6 hpv7
      obtain ⟨s, hls, hrs, _, hmem, hsl⟩ := look_file hS7 hf'
      obtain ⟨x, hx⟩ : ∃ x, f'[kk * 32 + m]? = some x := ⟨_, List.getElem?_eq_getElem hin⟩
      obtain ⟨a, haa, hca, hba⟩ := hrs.cell (j := kk * 32 + m) (v := u8V x) (by rw [List.getElem?_map, hx]; rfl)
      refine ⟨some d'.M, by have := hS7.cellM; rw [hS'] at this; exact this, name, by rw [cell_blk hB7'.2.1]; rfl, s, hls, (kk : Int), by rw [add_def, cell_blk (hpv7.blk hbv26)]; rfl, a, haa, ?_⟩
      rw [wrap_in (n := (kk : Int) * 32) (by omega) (by omega), wrap_in (n := (kk : Int) * 32 + (m : Int)) (by omega) (by omega), hsl]
      refine ⟨by omega, by omega, _, by rw [show ((kk : Int) * 32 + (m : Int)).toNat * 1 = kk * 32 + m by omega]; exact hca, by omega, by omega, ?_⟩
      rw [add_def]
      refine st1_intro (hpv7.blk hbv6) (by rw [Page.size_cells]; omega) fun v8 hv8 hbv8 => ?_
      have hfv8 : Fr (· = v3.heap.size) v7 v8 := by rw [hv8]; exact Fr.cell v7 _ _ _
      rw [wrap_in (by omega) (by omega)]
      refine hJ2 _ _ hm32 ⟨by omega, ?_, (hfv6.trans (Fr.pu hpv7 : Fr (· = v3.heap.size) v6 v7) fun i hi _ => hi).trans hfv8 fun i hi _ => hi⟩
      rw [hbv8, show 0 + (m : Int).toNat * 1 = m by omega, show Value.int .u8 ((x.toNat : Nat) : Int) = u8V x from rfl, Page.set_b _ hm32, refreshP_step f' kk m pg hx hkn hdi]
    · have hm32 : m = 32 := by have := dfalse hm1; omega
      subst hm32
      refine dwE_intro fun v7 hpv7 hhv7 => ?_
      have hS7 := hS6.pu hpv7
      have hB7' := hBpu hB6 hpv7
      have hbv27 := hpv7.blk hbv26
      obtain ⟨v8, hr8, hm8, hf8', hs8⟩ := (hS7.ca un hun).upd keysP u48 (name, (kk : Int)) (refreshP f' kk 32 pg)
      have hS8 := hS7.setCache hun hm8 hf8'
      refine ⟨(un : Int), by rw [cell_blk hB7'.1]; rfl, by omega, by omega, some (d'.c un), by have := hS7.cellC hun; rw [hS'] at this; simpa using this, name, by rw [add_def, cell_blk hbv27]; rfl, (kk : Int), by rw [add_def, cell_blk hbv27]; rfl, _, Page.size_cells _, cells_at (hpv7.blk hbv6) 96, v8, hr8, ?_⟩
      show J _ _
      rw [wrap_in (by omega) (by omega)]
      have htk : ps.take (k + 1) = ps.take k ++ [(name, (kk : Int))] := by rw [List.take_add_one, hp]; rfl
      have hcown : d'.c un ∈ d'.own := d'.mem_c hun
      have hF58 : Fr (fun b => b = v3.heap.size ∨ b = d'.c un) v5 v8 := ((hfv6.mono fun i hi _ => .inl hi).trans (Fr.pu hpv7 : Fr (fun b => b = v3.heap.size ∨ b = d'.c un) v6 v7) fun i hi _ => hi).trans hf8' fun i hi _ => .inr hi
      refine hJ _ _ hlt' ⟨by omega, ?_, ?_, ?_, ?_, ?_⟩
      · rw [htk, refAll_snoc, hσk]
        simp only [refreshS, Int.toNat_natCast, hfok, hpg]
        exact hS8
      · refine (hrw.pu hPv5).fr hF58 fun b hb => ?_
        have := hblk b hb
        have := hrw.lt b hb
        rintro (hx | hx)
        · omega
        · have := hlt14 _ hcown; omega
      · refine hBfr hB5' hF58 fun b hb => ?_
        rcases hb with hb | hb
        · exact .inr (by omega)
        · rcases hown' _ hcown with ho | ho
          · exact .inl (by rw [hb]; exact hlt _ ho)
          · exact .inr (by omega)
      · refine (hfr.trans (Fr.pu hPv5 : Fr (· ∈ d.own) w' v5) fun i hi _ => hi).trans hF58 fun i hi hlt => ?_
        have := hfr.size
        rcases hi with hi | hi
        · omega
        · rcases hown' _ hcown with ho | ho
          · rw [hi]; exact ho
          · omega
      · have := hPv5.size; have := hF58.size; omega
  · have hk' : k = ps.length := by have := dfalse hge; omega
    subst hk'
    rw [List.take_length] at hS
    show runD Tryz.prog [leaveD d'] w' _
    refine leave_c hS fun w9 h9 hf9 _ => ⟨by rw [hC0], .inr ⟨hC0, d', ps, hperm, h9, hfr.trans hf9 fun i hi _ => by rw [show i = d'.S from hi, hS']; exact mem_S d, fun b hb => (hown' b hb).elim .inl fun h => .inr (by omega), hS'⟩⟩
end Go.Proofs.YtnigfiljenfgjaaGreat

/- The disk: what stays right of a system; small computations. -/
set_option maxRecDepth 100000
set_option linter.unusedVariables false
set_option linter.unusedSimpArgs false
set_option linter.unusedSectionVars false
namespace Go.Proofs.YtnigfiljenfgjaaGreat
open Go.Sh Go.RowKit

theorem conv_str {w : World} {l : SV} {bs : List UInt8} (h : RowAt w 5 1 l (bs.map u8V)) : ∃ s : ByteArray, (convert 36 9 (.slice l.a l.len l.cap)).run Tryz.prog w = .ok (.string s) w /\ s.data.toList = bs := by
  have hl := u8V_map_len bs h
  rw [run_convert_bytes_string w 36 9 5 l.a l.len l.cap u29 u5 u9]
  have key : ∀ (xs : List UInt8) (acc : ByteArray), ((xs.map fun x : UInt8 => ((x.toNat : Nat) : Int)).foldl (fun r n => r.push (UInt8.ofNat n.toNat)) acc).data.toList = acc.data.toList ++ xs := by
    intro xs
    induction xs with
    | nil => intro acc; simp
    | cons x xs ih =>
      intro acc
      simp only [List.map_cons, List.foldl_cons, ih]
      have hx : UInt8.ofNat ((x.toNat : Int)).toNat = x := by simp
      rw [hx]
      have : (acc.push x).data.toList = acc.data.toList ++ [x] := by simp [ByteArray.push]
      rw [this]; simp
  cases ha : l.a with
  | none =>
    have hln : l = ⟨none, 0, 0⟩ := by
      obtain ⟨_, h' | ⟨g, _, h', _⟩⟩ := h
      · exact h'
      · rw [ha] at h'; cases h'
    have hbs : bs = [] := List.eq_nil_of_length_eq_zero (by rw [← hl, hln])
    refine ⟨ByteArray.empty, ?_, by rw [hbs]; rfl⟩
    rfl
  | some a =>
    have hload : (loadCells a l.len).run Tryz.prog w = .ok ((bs.map fun x : UInt8 => ((x.toNat : Nat) : Int)).map (Value.int .u8)).toArray w := by
      have := run_loadCells_list (P := Tryz.prog) w a (bs.map u8V) fun j v hv => by
        obtain ⟨a', ha', hc, _⟩ := h.cell hv
        rw [ha] at ha'; cases ha'; exact hc
      rw [List.length_map, ← hl] at this
      rw [this]; simp [u8V, Function.comp_def]
    refine ⟨_, run_bytesToString w a l.len l.cap _ hload, ?_⟩
    rw [key]; rfl

theorem wrF_one (pg : Page) (kk j0 : Nat) (f : List UInt8) (hd : ∀ j, j < 32 -> (pg.di j = true ↔ j = j0)) : ∀ m, m <= 32 -> wrF pg kk f m = (if j0 < m then f.set (kk * 32 + j0) (pg.b j0) else f) /\ wrN pg m = if j0 < m then 1 else 0
  | 0, _ => by simp [wrF, wrN]
  | m + 1, hm => by
    obtain ⟨h1, h2⟩ := wrF_one pg kk j0 f hd m (by omega)
    simp only [wrF, wrN, h1, h2]
    by_cases e : m = j0
    · subst e
      have : pg.di m = true := (hd m (by omega)).2 rfl
      simp [this]
    · have : ¬ pg.di m = true := fun h => e ((hd m (by omega)).1 h)
      have e2 : j0 < m + 1 ↔ j0 < m := by omega
      simp [this, e2]

def Sizes (N : Nat) (σ : Sys) : Prop := ∀ u, u < 4 -> (σ.caches u).length <= N
def PgOk (kk : Nat) (len : Nat) (pg : Page) : Prop := ∀ j, j < 32 -> (pg.kn j = true ∨ pg.di j = true) -> kk * 32 + j < len
theorem PgOk.fetch {kk : Nat} {f : List UInt8} {pg : Page} (h : PgOk kk f.length pg) (m : Nat) : PgOk kk f.length (fetchP f kk m pg) := fun j hj hkd => by
  simp only [fetchP, Bool.or_eq_true, decide_eq_true_eq] at hkd
  rcases hkd with (hk | hk) | hk
  · exact h j hj (.inl hk)
  · exact hk.2
  · exact h j hj (.inr hk)
theorem PgOk.want {kk at_ n : Nat} {f : List UInt8} {pg : Page} (h : PgOk kk f.length pg) (m : Nat) : PgOk kk f.length (wantP at_ n f kk m pg) := fun j hj hkd => by
  simp only [wantP, Bool.or_eq_true, decide_eq_true_eq] at hkd
  rcases hkd with (hk | hk) | hk
  · exact h j hj (.inl hk)
  · exact hk.2.2
  · exact h j hj (.inr hk)
theorem PgOk.zero (kk len : Nat) : PgOk kk len Page.zero := fun j _ h => by simp [Page.zero] at h
theorem Good.pgOk {σ : Sys} (h : Good σ) {u : Nat} (hu : u < 4) {name : ByteArray} {kk : Nat} {f : List UInt8} (hf : AL.get σ.files name = some f) (at_ n : Nat) : PgOk kk f.length (pageR σ u name kk at_ n f) := by
  unfold pageR
  cases hg : AL.get (σ.caches u) (name, (kk : Int)) with
  | none => exact (PgOk.zero kk _).fetch 32
  | some p =>
    obtain ⟨f', hf', hfi⟩ := h.file u hu _ (AL.get_mem hg)
    simp only at hf' hfi
    rw [hf] at hf'; cases hf'
    exact PgOk.want (fun j hj hkd => by have := hfi j hj hkd; simpa using this) 32
theorem Good.setPage {σ : Sys} (h : Good σ) {u : Nat} (hu : u < 4) {name : ByteArray} {kk : Nat} (hkk : kk <= 1000000) {f : List UInt8} (hf : AL.get σ.files name = some f) {pg : Page} (hp : PgOk kk f.length pg) {N : Nat} (hN : Sizes N σ) (hN1 : N + 1 <= 1000000) :
    Good (σ.setCache u (AL.put (σ.caches u) (name, (kk : Int)) pg)) /\ Sizes (N + 1) (σ.setCache u (AL.put (σ.caches u) (name, (kk : Int)) pg)) := by
  have hlen : (AL.put (σ.caches u) (name, (kk : Int)) pg).length <= (σ.caches u).length + 1 := by
    cases hg : AL.get (σ.caches u) (name, (kk : Int)) with
    | none => rw [AL.put_new hg]; simp
    | some p => rw [AL.length_put_old (by rw [hg]; simp)]; omega
  have hS : Sizes (N + 1) (σ.setCache u (AL.put (σ.caches u) (name, (kk : Int)) pg)) := fun v hv => by
    simp only [Sys.setCache]
    split
    · have := hN u hu; omega
    · have := hN v hv; omega
  have hmem : ∀ v, v < 4 -> ∀ q ∈ (σ.setCache u (AL.put (σ.caches u) (name, (kk : Int)) pg)).caches v, q = ((name, (kk : Int)), pg) ∨ q ∈ σ.caches v := fun v hv q hq => by
    simp only [Sys.setCache] at hq
    split at hq
    · rename_i e; subst e; exact AL.mem_put hq
    · exact .inr hq
  refine ⟨⟨h.small, fun v hv q hq => ?_, fun v hv => Nat.le_trans (hS v hv) hN1, fun v hv q hq => ?_⟩, hS⟩
  · rcases hmem v hv q hq with rfl | hq
    · exact ⟨by simp, by simp; omega⟩
    · exact h.near v hv q hq
  · rcases hmem v hv q hq with rfl | hq
    · exact ⟨f, hf, fun i hi hkd => by simpa using hp i hi hkd⟩
    · exact h.file v hv q hq

def StepOk {τ : Type} (step : τ -> Page -> Nat -> Nat -> τ × Page) (at_ n len : Nat) : Prop := ∀ t pg i k kk, at_ + k = kk * 32 + i -> i < 32 -> k < n -> PgOk kk len pg -> PgOk kk len (step t pg i k).2
theorem stepOk_write (bs : List UInt8) {at_ n len : Nat} (h : at_ + n <= len) : StepOk (wstep bs) at_ n len := fun t pg i k kk e hi hk hp j hj hkd => by
  simp only [wstep, upN] at hkd
  by_cases ej : j = i
  · subst ej; omega
  · simp only [ej, if_false] at hkd; exact hp j hj hkd
theorem stepOk_read {at_ n len : Nat} : StepOk rstep at_ n len := fun t pg i k kk e hi hk hp => hp
theorem innerS_ok {τ : Type} {step : τ -> Page -> Nat -> Nat -> τ × Page} {at_ n len : Nat} (hs : StepOk step at_ n len) {t : τ} {pg : Page} {i k kk : Nat} (e : at_ + k = kk * 32 + i) (hp : PgOk kk len pg) : ∀ m, i + m <= 32 -> k + m <= n -> PgOk kk len (innerS step t pg i k m).2
  | 0, _, _ => hp
  | m + 1, h1, h2 => hs _ _ _ _ kk (by omega) (by omega) (by omega) (innerS_ok hs e hp m (by omega) (by omega))
theorem eachS_good {τ : Type} {step : τ -> Page -> Nat -> Nat -> τ × Page} {at_ n : Nat} {f : List UInt8} (hs : StepOk step at_ n f.length) {u : Nat} (hu : u < 4) {name : ByteArray} (hfl : f.length <= 1000000) (hat : at_ + n <= f.length) :
    ∀ (fuel : Nat) (σ : Sys) (t : τ) (k N : Nat), Good σ -> AL.get σ.files name = some f -> Sizes N σ -> N + (if k < n then (at_ + n - 1) / 32 - (at_ + k) / 32 + 1 else 0) <= 1000000 ->
      Good (eachS step u name at_ n f fuel σ t k).1 /\ (eachS step u name at_ n f fuel σ t k).1.files = σ.files /\ (eachS step u name at_ n f fuel σ t k).1.locks = σ.locks /\ Sizes (N + (if k < n then (at_ + n - 1) / 32 - (at_ + k) / 32 + 1 else 0)) (eachS step u name at_ n f fuel σ t k).1
  | 0, σ, t, k, N, hG, hf, hN, hb => ⟨hG, rfl, rfl, fun v hv => Nat.le_trans (hN v hv) (Nat.le_add_right _ _)⟩
  | fuel + 1, σ, t, k, N, hG, hf, hN, hb => by
    unfold eachS
    by_cases hk : k < n
    · simp only [hk, if_true] at hb ⊢
      obtain ⟨m, hm⟩ : ∃ m, m = min (32 - (at_ + k) % 32) (n - k) := ⟨_, rfl⟩
      rw [← hm]
      have hp := innerS_ok hs (t := t) (i := (at_ + k) % 32) (k := k) (kk := (at_ + k) / 32) (by omega) (hG.pgOk hu hf at_ n (kk := (at_ + k) / 32)) m (by omega) (by omega)
      obtain ⟨hG', hN'⟩ := hG.setPage hu (by omega) hf hp hN (by omega)
      have := eachS_good hs hu hfl hat fuel _ (innerS step t (pageR σ u name ((at_ + k) / 32) at_ n f) ((at_ + k) % 32) k m).1 (k + m) (N + 1) hG' hf hN' (by split <;> omega)
      refine ⟨this.1, this.2.1, this.2.2.1, fun v hv => Nat.le_trans (this.2.2.2 v hv) (by split <;> omega)⟩
    · simp only [hk, if_false]
      exact ⟨hG, trivial, trivial, fun v hv => Nat.le_trans (hN v hv) (Nat.le_add_right _ _)⟩
end Go.Proofs.YtnigfiljenfgjaaGreat

/- The disk: the law that is in each statement: a station sees an old byte until it locks it. -/
set_option maxRecDepth 100000
set_option linter.unusedVariables false
set_option linter.unusedSimpArgs false
set_option linter.unusedSectionVars false
namespace Go.Proofs.YtnigfiljenfgjaaGreat
open Go.Sh Go.RowKit

def nF : ByteArray := ⟨#[70]⟩
theorem isNm_F : isNm nF := by decide
theorem enter_F {u : Int} (h0 : 0 <= u) (h4 : u < 4) {σ : Sys} {f : List UInt8} (hf : AL.get σ.files nF = some f) : enterC u nF σ = 0 := by
  unfold enterC
  rw [if_neg (by rintro (h | h | h); omega; omega; exact h isNm_F), hf]; rfl
theorem fileOf_eq {σ : Sys} {name : ByteArray} {f : List UInt8} (hf : AL.get σ.files name = some f) : fileOf σ name = f := by simp [fileOf, hf]

theorem each_one {τ : Type} (step : τ -> Page -> Nat -> Nat -> τ × Page) (u : Nat) (name : ByteArray) (at_ : Nat) (f : List UInt8) (σ : Sys) (t : τ) : eachS step u name at_ 1 f 1 σ t 0 =
    (σ.setCache u (AL.put (σ.caches u) (name, ((at_ / 32 : Nat) : Int)) (step t (pageR σ u name (at_ / 32) at_ 1 f) (at_ % 32) 0).2), (step t (pageR σ u name (at_ / 32) at_ 1 f) (at_ % 32) 0).1) := by
  have hm : min (32 - at_ % 32) (1 - 0) = 1 := by omega
  simp only [eachS, Nat.lt_one_iff, if_true, Nat.add_zero, hm, innerS]
theorem read1 {σ : Sys} {u : Nat} (hu : u < 4) {f : List UInt8} (hf : AL.get σ.files nF = some f) {at_ : Nat} (hat : at_ < f.length) : readC (u : Int) nF (at_ : Int) 1 σ = 0 /\
    readR (u : Int) nF (at_ : Int) 1 σ = (σ.setCache u (AL.put (σ.caches u) (nF, ((at_ / 32 : Nat) : Int)) (pageR σ u nF (at_ / 32) at_ 1 f)), [(pageR σ u nF (at_ / 32) at_ 1 f).b (at_ % 32)]) := by
  have hc : readC (u : Int) nF (at_ : Int) 1 σ = 0 := by
    unfold readC
    rw [enter_F (by omega) (by omega) hf, fileOf_eq hf, if_pos rfl, if_neg (by omega), if_neg (by omega), if_neg (by omega), if_neg (by omega)]
  refine ⟨hc, ?_⟩
  simp only [readR, hc, if_true, fileOf_eq hf, Int.toNat_natCast]
  rw [show (1 : Int).toNat = 1 by rfl, each_one]
  rfl
def wpg (pg : Page) (i : Nat) (x : UInt8) : Page := { b := upN pg.b i x, kn := upN pg.kn i true, di := upN pg.di i true }
theorem write1 {σ : Sys} {u : Nat} (hu : u < 4) {f : List UInt8} (hf : AL.get σ.files nF = some f) {at_ : Nat} (hat : at_ < f.length) (x : UInt8) : writeC (u : Int) nF (at_ : Int) [x] σ = 0 /\
    writeS (u : Int) nF (at_ : Int) [x] σ = σ.setCache u (AL.put (σ.caches u) (nF, ((at_ / 32 : Nat) : Int)) (wpg (pageR σ u nF (at_ / 32) at_ 1 f) (at_ % 32) x)) := by
  have hc : writeC (u : Int) nF (at_ : Int) [x] σ = 0 := by
    unfold writeC
    rw [enter_F (by omega) (by omega) hf, fileOf_eq hf, if_pos rfl, if_neg (by omega), if_neg (by omega), if_neg (by simp; omega)]
  refine ⟨hc, ?_⟩
  simp only [writeS, hc, if_true, fileOf_eq hf, Int.toNat_natCast, List.length_singleton]
  rw [each_one]
  rfl

def base (n : Nat) : Sys := ⟨[(nF, List.replicate n 0)], fun _ => [], []⟩
theorem make_new : makeC nF Sys.new = 0 /\ makeS nF Sys.new = base 0 := by
  have he : enterC 0 nF Sys.new = 4 := by
    unfold enterC
    rw [if_neg (by rintro (h | h | h); omega; omega; exact h isNm_F)]; rfl
  have hc : makeC nF Sys.new = 0 := by unfold makeC; rw [he]; rfl
  exact ⟨hc, by simp only [makeS, hc, if_true]; rfl⟩
theorem base_file (n : Nat) : AL.get (base n).files nF = some (List.replicate n 0) := by simp [base, AL.get]
theorem shorts_base (n m : Nat) : ∀ k, shorts (base n) nF m k = base n
  | 0 => rfl
  | k + 1 => by
    simp only [shorts, shorts_base n m k, shortS]
    have : (base n).caches k = [] := rfl
    rw [this, List.filterMap_nil, ← this, setCache_self]
theorem resize_base {n : Nat} (hn : n <= 65536) : resizeC nF (n : Int) (base 0) = 0 /\ resizeS nF (n : Int) (base 0) = base n := by
  have hc : resizeC nF (n : Int) (base 0) = 0 := by
    unfold resizeC
    rw [enter_F (by omega) (by omega) (base_file 0), if_pos rfl, if_neg (by omega), if_neg (by omega)]
  refine ⟨hc, ?_⟩
  simp only [resizeS, hc, if_true, Int.toNat_natCast, fileOf_eq (base_file 0)]
  have : ({ base 0 with files := AL.put (base 0).files nF (sized (List.replicate 0 0) n) } : Sys) = base n := by
    simp [base, AL.put, sized]
  rw [this]; exact shorts_base n n 4
theorem good_base {n : Nat} (hn : n <= 1000000) : Good (base n) := by
  refine ⟨fun name f hf => ?_, fun u hu q hq => (by cases hq), fun u hu => Nat.zero_le _, fun u hu q hq => (by cases hq)⟩
  simp only [base, AL.get] at hf
  split at hf
  · cases hf; simpa using hn
  · cases hf
theorem sizes_base (n : Nat) : Sizes 0 (base n) := fun u hu => Nat.le_refl _

theorem flush1 {σ : Sys} {u kk : Nat} {pg : Page} (hc : σ.caches u = [((nF, (kk : Int)), pg)]) (hk : kk < 2048) {ps : List Place} (hp : ps.Perm (((σ.caches u).map Prod.fst).filter (inPages nF 0 65536))) :
    wrAll u nF ps (σ, 0) = (writtenS σ u nF kk, wrN pg 32) := by
  have hin : inPages nF 0 65536 (nF, (kk : Int)) = true := by
    show decide (nF = nF /\ (kk : Int) * 32 < 0 + 65536 /\ 0 < ((kk : Int) + 1) * 32) = true
    exact decide_eq_true ⟨rfl, by omega, by omega⟩
  rw [hc] at hp
  simp only [List.map_cons, List.map_nil, List.filter_cons, hin, if_true, List.filter_nil] at hp
  rw [List.perm_singleton.1 hp]
  have hpg : pageOf σ u (nF, (kk : Int)) = pg := by simp [pageOf, hc, AL.get]
  simp [wrAll, hpg]

theorem Left.next {w0 w w' : World} {d d' : Lay} {σ' : Sys} (hL : Left w w' d d' σ') (hp : Pu w0 w) (ho : ∀ b ∈ d.own, w0.heap.size <= b) : Pu w0 w' /\ ∀ b ∈ d'.own, w0.heap.size <= b :=
  ⟨hp.andNew hL.fr ho, fun b hb => (hL.own b hb).elim (ho b) fun h => Nat.le_trans hp.size h⟩
theorem Left.keep {w w' : World} {d d' : Lay} {σ' : Sys} (hL : Left w w' d d' σ') {l : SV} {vs : List Value} (hr : RowAt w 5 1 l vs) (hn : ∀ b ∈ blkOf l, b ∉ d.own) : RowAt w' 5 1 l vs /\ ∀ b ∈ blkOf l, b ∉ d'.own :=
  ⟨hr.fr hL.fr fun b hb => hn b hb, fun b hb ho => (hL.own b ho).elim (hn b hb) fun h => by have := hr.lt b hb; omega⟩
theorem Left.ptrEq {w w' : World} {d d' : Lay} {σ' : Sys} (hL : Left w w' d d' σ') : d.ptr = d'.ptr := by simp [Lay.ptr, hL.ptr]

theorem bytes_lit (s : ByteArray) (l : List UInt8) (h : s.data.toList = l) (t : ByteArray) (ht : t.data.toList = l) : (s.toList == t.toList) = true := by
  rw [toList_beq]
  have : s = t := by
    obtain ⟨⟨a⟩⟩ := s
    obtain ⟨⟨b⟩⟩ := t
    simp only at h ht
    rw [h, ht]
  simp [this]
theorem locksOk_nil {σ : Sys} (h : σ.locks = []) : LocksOk σ := ⟨fun l hl => (by rw [h] at hl; cases hl), by rw [h]; simp⟩

set_option maxHeartbeats 200000 in
theorem known_c (w : World) : Calls Tryz.prog 8 #[] w fun e w' => e = .returned (.bool true) /\ Pu w w' := by
  refine F8_calls w _ ?_
  refine Calls.mono (new_c w) ?_
  rintro e w1 ⟨rfl, h1, hp1⟩
  have ho1 : ∀ b ∈ (newLay w.heap.size).own, w.heap.size <= b := fun b hb => by
    simp [newLay, Lay.own, blkOf] at hb; omega
  generalize newLay w.heap.size = d at h1 ho1 ⊢
  refine ⟨some ⟨d.S, 0, none⟩, rfl, false, w1, eqS_ptr_nil u23 _ _ _ w1, ?_⟩
  obtain ⟨m1, m2⟩ := make_new
  refine Calls.mono (make_c h1 nF) ?_
  rintro e w2 ⟨rfl, d2, hL2⟩
  rw [m2] at hL2
  rw [m1]
  obtain ⟨hp2, ho2⟩ := hL2.next hp1 ho1
  refine ⟨0, rfl, ?_⟩
  obtain ⟨r1, r2⟩ := resize_base (n := 4) (by omega)
  show Calls Tryz.prog 24 #[d.ptr, .string nF, .int .i64 ((4 : Nat) : Int)] w2 _
  rw [hL2.ptrEq]
  refine Calls.mono (resize_c hL2.sys (good_base (by omega)).small (good_base (by omega)).near nF ((4 : Nat) : Int)) ?_
  rintro e w3 ⟨rfl, d3, hL3⟩
  rw [r2] at hL3
  rw [r1]
  obtain ⟨hp3, ho3⟩ := hL3.next hp2 ho2
  refine ⟨0, rfl, ?_⟩
  have hptr3 : d.ptr = d3.ptr := hL2.ptrEq.trans hL3.ptrEq
  -- station 0 reads
  have hf3 := base_file 4
  obtain ⟨q1, q2⟩ := read1 (σ := base 4) (u := 0) (by omega) hf3 (at_ := 0) (by simp)
  simp only [Nat.zero_div, Nat.zero_mod] at q2
  show Calls Tryz.prog 13 #[d.ptr, .int .i64 ((0 : Nat) : Int), .string nF, .int .i64 ((0 : Nat) : Int), .int .i64 1] w3 _
  rw [hptr3]
  refine Calls.mono (read_c hL3.sys (good_base (by omega)).small ((0 : Nat) : Int) nF ((0 : Nat) : Int) 1) ?_
  rintro e w4 ⟨l4, rfl, hL4, hr4, hb4⟩
  rw [q2] at hL4
  rw [q1]
  obtain ⟨hp4, ho4⟩ := hL4.next hp3 ho3
  refine ⟨l4, 0, rfl, ?_⟩
  generalize hA : pageR (base 4) 0 nF 0 0 1 (List.replicate 4 0) = pA at hL4
  have hA0 : pA.b 0 = 0 /\ pA.kn 0 = true /\ pA.di 0 = false := by rw [← hA]; exact ⟨rfl, rfl, rfl⟩
  obtain ⟨hG4, hN4⟩ := (good_base (n := 4) (by omega)).setPage (u := 0) (by omega) (name := nF) (kk := 0) (by omega) hf3 (pg := pA) (by rw [← hA]; exact (good_base (by omega)).pgOk (by omega) hf3 0 1) (sizes_base 4) (by omega)
  generalize hσ4 : (base 4).setCache 0 (AL.put ((base 4).caches 0) (nF, ((0 : Nat) : Int)) pA) = σ4 at hL4 hG4 hN4
  have hf4 : AL.get σ4.files nF = some (List.replicate 4 0) := by rw [← hσ4]; exact hf3
  have hc40 : σ4.caches 0 = [((nF, ((0 : Nat) : Int)), pA)] := by rw [← hσ4]; rfl
  have hc41 : σ4.caches 1 = [] := by rw [← hσ4]; rfl
  have hl4 : σ4.locks = [] := by rw [← hσ4]; rfl
  refine alE_intro fun w5 hw5 => ?_
  have hq5 : Pu w4 w5 := by rw [hw5]; exact Pu.alloc w4 _
  have hb5 : w5.heap[w4.heap.size]? = some (.cells #[.int .u8 7] 5) := by rw [hw5]; exact alloc_new w4 _
  have h5 := hL4.sys.pu hq5
  have hsl : RdSl w5 ⟨some ⟨w4.heap.size, 0, none⟩, 1, 1⟩ [(7 : UInt8)] := ⟨rfl, Nat.le_refl _, by simp, fun i x hx => by
    have hi : i = 0 := by cases i with
      | zero => rfl
      | succ i => simp at hx
    subst hi
    simp at hx; subst hx
    refine ⟨_, rfl, [.int .u8 7], rfl, fun j v hv => ?_⟩
    have hj : j = 0 := by cases j with
      | zero => rfl
      | succ j => simp at hv
    subst hj
    rw [add_def, add_def, cell_blk hb5]; simpa using hv⟩
  -- station 1 writes
  obtain ⟨q3, q4⟩ := write1 (σ := σ4) (u := 1) (by omega) hf4 (at_ := 0) (by simp) 7
  simp only [Nat.zero_div, Nat.zero_mod] at q4
  show Calls Tryz.prog 25 #[d.ptr, .int .i64 ((1 : Nat) : Int), .string nF, .int .i64 ((0 : Nat) : Int), .slice (some ⟨w4.heap.size, 0, none⟩) 1 1] w5 _
  rw [hptr3]
  have hwr := write_c h5 hG4.small ((1 : Nat) : Int) nF ((0 : Nat) : Int) (l := ⟨some ⟨w4.heap.size, 0, none⟩, 1, 1⟩) (bs := [7]) hsl fun b hb => by
    simp [blkOf] at hb; subst hb
    exact ⟨blk_lt hb5, fun ho => by have := hL4.sys.lt _ ho; omega⟩
  refine Calls.mono hwr ?_
  rintro e w6 ⟨rfl, hL6⟩
  rw [q4] at hL6
  rw [q3]
  obtain ⟨hp6, ho6⟩ := hL6.next (hp4.trans hq5) ho4
  refine ⟨0, rfl, ?_⟩
  generalize hB : wpg (pageR σ4 1 nF 0 0 1 (List.replicate 4 0)) 0 7 = pB at hL6
  have hpR : pageR σ4 1 nF 0 0 1 (List.replicate 4 0) = fetchP (List.replicate 4 0) 0 32 Page.zero := by simp [pageR, hc41, AL.get]
  have hBd : ∀ j, j < 32 -> (pB.di j = true ↔ j = 0) := fun j hj => by
    rw [← hB, hpR]; simp only [wpg, upN]
    by_cases e : j = 0
    · simp [e]
    · simp [e, fetchP, Page.zero]
  have hBb : pB.b 0 = 7 := by rw [← hB]; simp [wpg, upN]
  obtain ⟨hG6, hN6⟩ := hG4.setPage (u := 1) (by omega) (name := nF) (kk := 0) (by omega) hf4 (pg := pB) (by
    rw [← hB, hpR]
    intro j hj hkd
    by_cases e : j = 0
    · subst e; simp
    · simp only [wpg, upN, e, if_false] at hkd
      exact (PgOk.zero 0 _).fetch 32 j hj hkd) hN4 (by omega)
  generalize hσ6 : σ4.setCache 1 (AL.put (σ4.caches 1) (nF, ((0 : Nat) : Int)) pB) = σ6 at hL6 hG6 hN6
  have hf6 : AL.get σ6.files nF = some (List.replicate 4 0) := by rw [← hσ6]; exact hf4
  have hc60 : σ6.caches 0 = [((nF, ((0 : Nat) : Int)), pA)] := by rw [← hσ6]; exact hc40
  have hc61 : σ6.caches 1 = [((nF, ((0 : Nat) : Int)), pB)] := by rw [← hσ6]; simp [Sys.setCache, hc41, AL.put]
  have hl6 : σ6.locks = [] := by rw [← hσ6]; exact hl4
  -- station 1 flushes
  show Calls Tryz.prog 26 #[d.ptr, .int .i64 ((1 : Nat) : Int), .string nF] w6 _
  rw [hptr3]
  refine Calls.mono (flush_c hL6.sys hG6 ((1 : Nat) : Int) nF) ?_
  rintro e w7 ⟨n7, rfl, hcase⟩
  have he6 : enterC ((1 : Nat) : Int) nF σ6 = 0 := enter_F (by omega) (by omega) hf6
  rcases hcase with ⟨hne, _⟩ | ⟨_, ps, hps, rfl, hL7⟩
  · exact absurd he6 hne
  rw [Int.toNat_natCast] at hps hL7
  rw [Int.toNat_natCast, flush1 hc61 (by omega) hps]
  rw [flush1 hc61 (by omega) hps] at hL7
  obtain ⟨hp7, ho7⟩ := hL7.next hp6 ho6
  obtain ⟨wF, wN⟩ := wrF_one pB 0 0 (List.replicate 4 0) hBd 32 (by omega)
  simp only [wN, he6]
  refine ⟨1, 0, rfl, ?_⟩
  have hpB : pageOf σ6 1 (nF, ((0 : Nat) : Int)) = pB := by simp [pageOf, hc61, AL.get]
  have hG7 := hG6.written (u := 1) (by omega) (name := nF) (kk := 0) (by rw [hc61]; simp)
  have hf7 : AL.get (writtenS σ6 1 nF 0).files nF = some [7, 0, 0, 0] := by
    simp only [writtenS, Sys.setCache, AL.get_put, if_true, hpB, fileOf_eq hf6, wF, hBb]; rfl
  have hc70 : (writtenS σ6 1 nF 0).caches 0 = [((nF, ((0 : Nat) : Int)), pA)] := by simp only [writtenS, Sys.setCache]; exact hc60
  have hl7 : (writtenS σ6 1 nF 0).locks = [] := hl6
  have hN7 : Sizes 2 (writtenS σ6 1 nF 0) := fun v hv => by
    have := congrArg List.length (written_keys (σ := σ6) (u := 1) (name := nF) (kk := 0) (by rw [hc61]; simp) v)
    simp only [List.length_map] at this
    rw [this]; exact hN6 v hv
  generalize writtenS σ6 1 nF 0 = σ7 at hL7 hG7 hf7 hc70 hl7 hN7
  -- station 0 reads the old byte
  obtain ⟨q5, q6⟩ := read1 (σ := σ7) (u := 0) (by omega) hf7 (at_ := 0) (by simp)
  simp only [Nat.zero_div, Nat.zero_mod] at q6
  show Calls Tryz.prog 13 #[d.ptr, .int .i64 ((0 : Nat) : Int), .string nF, .int .i64 ((0 : Nat) : Int), .int .i64 1] w7 _
  rw [hptr3]
  refine Calls.mono (read_c hL7.sys hG7.small ((0 : Nat) : Int) nF ((0 : Nat) : Int) 1) ?_
  rintro e w8 ⟨l8, rfl, hL8, hr8, hb8⟩
  rw [q6] at hL8 hr8
  rw [q5]
  obtain ⟨hp8, ho8⟩ := hL8.next hp7 ho7
  refine ⟨l8, 0, rfl, ?_⟩
  have hpR8 : pageR σ7 0 nF 0 0 1 [7, 0, 0, 0] = wantP 0 1 [7, 0, 0, 0] 0 32 pA := by simp [pageR, hc70, AL.get]
  have hP8 : PgOk 0 4 (wantP 0 1 [7, 0, 0, 0] 0 32 pA) := by
    have := hG7.pgOk (u := 0) (by omega) hf7 0 1 (kk := 0)
    rw [hpR8] at this; exact this
  have hA8 : (wantP 0 1 [7, 0, 0, 0] 0 32 pA).b 0 = 0 /\ (wantP 0 1 [7, 0, 0, 0] 0 32 pA).kn 0 = true /\ (wantP 0 1 [7, 0, 0, 0] 0 32 pA).di 0 = false := by simp [wantP, hA0]
  rw [hpR8] at hL8 hr8
  obtain ⟨hG8, hN8⟩ := hG7.setPage (u := 0) (by omega) (name := nF) (kk := 0) (by omega) hf7 (pg := wantP 0 1 [7, 0, 0, 0] 0 32 pA) hP8 hN7 (by omega)
  generalize hC : wantP 0 1 [7, 0, 0, 0] 0 32 pA = pC at hL8 hr8 hG8 hN8 hA8
  have hb8n : ∀ b ∈ blkOf l8, b ∉ d3.own := fun b hb ho => by have := hb8 b hb; have := hL7.sys.lt b ho; omega
  simp only [hA8.1] at hr8
  generalize hσ8 : σ7.setCache 0 (AL.put (σ7.caches 0) (nF, ((0 : Nat) : Int)) pC) = σ8 at hL8 hG8 hN8
  have hf8 : AL.get σ8.files nF = some [7, 0, 0, 0] := by rw [← hσ8]; exact hf7
  have hc80 : σ8.caches 0 = [((nF, ((0 : Nat) : Int)), pC)] := by rw [← hσ8]; simp [Sys.setCache, hc70, AL.put]
  have hl8 : σ8.locks = [] := by rw [← hσ8]; exact hl7
  -- station 0 locks
  show Calls Tryz.prog 27 #[d.ptr, .int .i64 ((0 : Nat) : Int), .string nF, .int .i64 0, .int .i64 1] w8 _
  rw [hptr3]
  refine Calls.mono (lock_c hL8.sys hG8 (locksOk_nil hl8) ((0 : Nat) : Int) nF 0 1) ?_
  have hlc : lockC ((0 : Nat) : Int) nF 0 1 σ8 = 0 := by
    unfold lockC
    rw [enter_F (by omega) (by omega) hf8, if_pos rfl, hl8]; rfl
  rintro e w9 ⟨rfl, hcase⟩
  rcases hcase with ⟨hne, _⟩ | ⟨_, d9, ps9, hps9, hL9⟩
  · exact absurd hlc hne
  rw [hlc]
  obtain ⟨hp9, ho9⟩ := hL9.next hp8 ho8
  refine ⟨0, rfl, ?_⟩
  rw [Int.toNat_natCast] at hps9 hL9
  have hin : inPages nF 0 1 (nF, ((0 : Nat) : Int)) = true := by
    show decide (nF = nF /\ ((0 : Nat) : Int) * 32 < 0 + 1 /\ 0 < (((0 : Nat) : Int) + 1) * 32) = true
    exact decide_eq_true ⟨rfl, by omega, by omega⟩
  rw [hc80] at hps9
  simp only [List.map_cons, List.map_nil, List.filter_cons, hin, if_true, List.filter_nil] at hps9
  rw [List.perm_singleton.1 hps9] at hL9
  simp only [refAll, Int.toNat_natCast] at hL9
  have hpC : pageOf (locked ((0 : Nat) : Int) nF 0 1 σ8) 0 (nF, ((0 : Nat) : Int)) = pC := by simp [pageOf, locked, hc80, AL.get]
  have hG8' : Good (locked ((0 : Nat) : Int) nF 0 1 σ8) := ⟨hG8.small, hG8.near, hG8.cnt, hG8.file⟩
  obtain ⟨hG9, _⟩ := hG8'.refresh (u := 0) (by omega) (name := nF) (kk := 0) (by simp [locked, hc80])
  have hf9 : AL.get (refreshS (locked ((0 : Nat) : Int) nF 0 1 σ8) 0 nF 0).files nF = some [7, 0, 0, 0] := hf8
  have hc90 : (refreshS (locked ((0 : Nat) : Int) nF 0 1 σ8) 0 nF 0).caches 0 = [((nF, ((0 : Nat) : Int)), refreshP [7, 0, 0, 0] 0 32 pC)] := by
    have : fileOf (locked ((0 : Nat) : Int) nF 0 1 σ8) nF = [7, 0, 0, 0] := fileOf_eq hf8
    simp only [refreshS, hpC, this]
    simp [Sys.setCache, locked, hc80, AL.put]
  generalize refreshS (locked ((0 : Nat) : Int) nF 0 1 σ8) 0 nF 0 = σ9 at hL9 hG9 hf9 hc90
  obtain ⟨hr9, hb9n⟩ := hL9.keep hr8 hb8n
  -- and reads the new byte
  obtain ⟨q7, q8⟩ := read1 (σ := σ9) (u := 0) (by omega) hf9 (at_ := 0) (by simp)
  simp only [Nat.zero_div, Nat.zero_mod] at q8
  show Calls Tryz.prog 13 #[d.ptr, .int .i64 ((0 : Nat) : Int), .string nF, .int .i64 ((0 : Nat) : Int), .int .i64 1] w9 _
  rw [hptr3, hL9.ptrEq]
  refine Calls.mono (read_c hL9.sys hG9.small ((0 : Nat) : Int) nF ((0 : Nat) : Int) 1) ?_
  rintro e w10 ⟨l10, rfl, hL10, hr10, hb10⟩
  rw [q8] at hr10
  rw [q7]
  obtain ⟨hp10, ho10⟩ := hL10.next hp9 ho9
  refine ⟨l10, 0, rfl, ?_⟩
  obtain ⟨hr10', _⟩ := hL10.keep hr9 hb9n
  have hv10 : (pageR σ9 0 nF 0 0 1 [7, 0, 0, 0]).b 0 = 7 := by
    simp [pageR, hc90, AL.get, wantP, refreshP, hA8]
  rw [hv10] at hr10
  obtain ⟨s1, hs1, hs1'⟩ := conv_str hr10'
  obtain ⟨s2, hs2, hs2'⟩ := conv_str hr10
  refine Br.t rfl (Br.t rfl (Br.t rfl (Br.t rfl (Br.t rfl ⟨s1, w10, hs1, Br.t (bytes_lit s1 _ hs1' _ rfl) ⟨s2, w10, hs2, ?_⟩⟩))))
  exact ⟨by rw [bytes_lit s2 _ hs2' _ rfl], hp10⟩
end Go.Proofs.YtnigfiljenfgjaaGreat

/- The disk: finding and deleting a lock. -/
set_option maxRecDepth 100000
set_option linter.unusedVariables false
set_option linter.unusedSimpArgs false
set_option linter.unusedSectionVars false
namespace Go.Proofs.YtnigfiljenfgjaaGreat
open Go.Sh Go.RowKit

theorem struct70 : structB Tryz.prog 95 [some .i64, none, some .i64, some .i64] = true := by kernel_rfl
theorem guard70 : Tryz.prog.eqGuardType Tryz.prog.depth 95 = false := by kernel_rfl
theorem eqLock (l k : Lock) (x y : Operand) (w : World) : (eqS .eql 95 x y (.agg #[.int .i64 l.u, .string l.name, .int .i64 l.at_, .int .i64 l.n]) (.agg #[.int .i64 k.u, .string k.name, .int .i64 k.at_, .int .i64 k.n])).run Tryz.prog w = .ok (.bool (decide (l = k))) w := by
  refine eqS_row (ks := [some .i64, none, some .i64, some .i64]) (xs := l.cells) (ys := k.cells) struct70 guard70 rfl rfl ?_ w
  rw [decide_eq_true_iff]
  constructor
  · rintro rfl; rfl
  · intro h
    obtain ⟨a, b, c, d⟩ := l
    obtain ⟨a', b', c', d'⟩ := k
    simpa [Lock.cells] using h

theorem index_c {w : World} {s : SV} {ls : List Lock} (hr : RowAt w 95 4 s (ls.flatMap Lock.cells)) (hlen : ls.length <= 1000000) (lk : Lock) :
    Calls Tryz.prog 80 #[.slice s.a s.len s.cap, lk.val] w fun e w' => ∃ n : Int, e = .returned (.int .i64 n) /\ Pu w w' /\ ((n = -1 /\ lk ∉ ls) ∨ ∃ k : Nat, n = k /\ ls[k]? = some lk /\ ∀ j, j < k -> ls[j]? ≠ some lk) := by
  refine F80_calls s _ _ _ _ w _ ?_
  refine alE_intro fun w1 hw1 => ?_
  have hp1 : Pu w w1 := by rw [hw1]; exact Pu.alloc w _
  have hb1 : w1.heap[w.heap.size]? = some (.cells #[.int .i64 lk.u, .string lk.name, .int .i64 lk.at_, .int .i64 lk.n] 95) := by rw [hw1]; exact alloc_new w _
  have hsl : s.len = ls.length := by have := hr.1; rw [locks_len] at this; omega
  refine loopUp ls.length (fun k t w' => t = (k : Int) /\ Pu w1 w' /\ ∀ j, j < k -> ls[j]? ≠ some lk) ⟨rfl, Pu.refl w1, fun j hj => by omega⟩ ?_
  rintro k J t w' hk ⟨rfl, hp, hall⟩ hJ
  rw [hsl]
  refine Br.of (fun hlt => ?_) (fun hge => ?_)
  · have hlt' : k < ls.length := by have := dtrue hlt; omega
    obtain ⟨l, hl⟩ : ∃ l, ls[k]? = some l := ⟨_, List.getElem?_eq_getElem hlt'⟩
    refine dwE_intro fun w2 hp2 hh2 => ?_
    have hb2 := hp2.blk (hp.blk hb1)
    obtain ⟨g, hga, hgc, hgb⟩ := (((hr.pu hp1).pu hp).pu hp2).base (fun e => by have := locks_len ls; rw [e] at this; simp at this; omega)
    have g0 := hgc _ _ (lock_get ls hl 0 _ rfl)
    have g1 := hgc _ _ (lock_get ls hl 1 _ rfl)
    have g2 := hgc _ _ (lock_get ls hl 2 _ rfl)
    have g3 := hgc _ _ (lock_get ls hl 3 _ rfl)
    refine ⟨lk.u, by rw [add_def, cell_blk hb2]; rfl, lk.name, by rw [add_def, cell_blk hb2]; rfl, lk.at_, by rw [add_def, cell_blk hb2]; rfl, lk.n, by rw [add_def, cell_blk hb2]; rfl,
      ⟨g, 0, none⟩, hga, by omega, by omega, l.u, ?_, l.name, ?_, l.at_, ?_, l.n, ?_, _, fun v => eqLock lk l _ _ v, Br.of (fun hb => ?_) (fun hb => ?_)⟩
    · rw [add_def, add_def, ← g0]; congr 2; omega
    · rw [add_def, add_def, ← g1]; congr 2; omega
    · rw [add_def, add_def, ← g2]; congr 2; omega
    · rw [add_def, add_def, ← g3]; congr 2; omega
    · have hb := dtrue hb
      subst hb
      exact ⟨_, rfl, (hp1.trans hp).trans hp2, .inr ⟨k, rfl, hl, hall⟩⟩
    · have hb := dfalse hb
      rw [wrap_in (by omega) (by omega)]
      refine hJ _ _ hlt' ⟨by omega, hp.trans hp2, fun j hj => ?_⟩
      by_cases e : j = k
      · subst e; rw [hl]; simp; exact fun e => hb e.symm
      · exact hall j (by omega)
  · have hk' : k = ls.length := by have := dfalse hge; omega
    subst hk'
    refine ⟨-1, rfl, hp1.trans hp, .inl ⟨rfl, fun hm => ?_⟩⟩
    obtain ⟨j, hj, e⟩ := List.getElem_of_mem hm
    exact hall j hj (by rw [List.getElem?_eq_getElem hj, e])

theorem flat_take (ls : List Lock) : ∀ k, (ls.flatMap Lock.cells).take (k * 4) = (ls.take k).flatMap Lock.cells := by
  induction ls with
  | nil => intro k; simp
  | cons l ls ih =>
    intro k
    cases k with
    | zero => simp
    | succ k =>
      simp only [List.flatMap_cons, List.take_succ_cons]
      rw [List.take_append, show (k + 1) * 4 - l.cells.length = k * 4 by simp [Lock.cells]; omega, ih k, List.take_of_length_le (by simp [Lock.cells]; omega)]
theorem flat_drop (ls : List Lock) : ∀ k, (ls.flatMap Lock.cells).drop (k * 4) = (ls.drop k).flatMap Lock.cells := by
  induction ls with
  | nil => intro k; simp
  | cons l ls ih =>
    intro k
    cases k with
    | zero => simp
    | succ k =>
      simp only [List.flatMap_cons, List.drop_succ_cons]
      rw [List.drop_append, show (k + 1) * 4 - l.cells.length = k * 4 by simp [Lock.cells]; omega, ih k, List.drop_of_length_le (by simp [Lock.cells]; omega)]
      rfl
theorem one_cells (ls : List Lock) : ∀ v ∈ ls.flatMap Lock.cells, v.oneCell' = true := fun v hv => by
  obtain ⟨l, _, h⟩ := List.mem_flatMap.1 hv
  simp only [Lock.cells, List.mem_cons, List.not_mem_nil, or_false] at h
  rcases h with rfl | rfl | rfl | rfl <;> rfl

theorem zval70 (w : World) : (zeroValue 95).run Tryz.prog w = .ok (.agg #[.int .i64 0, .string ⟨#[]⟩, .int .i64 0, .int .i64 0]) w := by
  have h : ((Tryz.prog.info? 95).bind (·.zero)) = some (.agg #[.int .i64 0, .string ⟨#[]⟩, .int .i64 0, .int .i64 0]) := by kernel_rfl
  obtain ⟨i, hi, hz⟩ := Option.bind_eq_some_iff.1 h
  simp [zeroValue, typeInfo, hi, hz]
theorem elem50 : Tryz.prog.elem 65 = 95 := by kernel_rfl
theorem clearOne {w : World} {g o c : Nat} {cur : Array Value} (hg : w.heap[g]? = some (.cells cur 95)) (ho : o + 4 <= cur.size) :
    ∃ w', (Builtin.clear_ #[65] 0 #[.slice (some ⟨g, o, none⟩) 1 c]).run Tryz.prog w = .ok (.tuple #[]) w' /\ w'.heap[g]? = some (.cells (cur.toList.take o ++ (⟨0, ⟨#[]⟩, 0, 0⟩ : Lock).cells ++ cur.toList.drop (o + 4)).toArray 95) /\ Fr (· = g) w w' /\ w'.heap.size = w.heap.size := by
  have hst := run_storeCells_at Tryz.prog g o 95 (⟨0, ⟨#[]⟩, 0, 0⟩ : Lock).cells 0 cur w hg (by simpa [Lock.cells] using ho) (by intro v hv; exact one_cells [⟨0, ⟨#[]⟩, 0, 0⟩] v (by simpa using hv))
  have hz : (Builtin.zeroCells (Value.agg #[.int .i64 0, .string ⟨#[]⟩, .int .i64 0, .int .i64 0]).cells 1).toList = (⟨0, ⟨#[]⟩, 0, 0⟩ : Lock).cells := by kernel_rfl
  refine ⟨_, ?_, setRow_heap w g cur _ _ (0, 0) hg, ⟨rfl, rfl, rfl, by simp, fun k _ hk => setRow_other w g k _ hk⟩, by simp⟩
  simp only [Nat.add_zero, Nat.zero_add] at hst
  simp [Builtin.clear_, run_underlying u50', zval70, hz, hst]
  rfl
end Go.Proofs.YtnigfiljenfgjaaGreat

/- The disk: giving a lock up. -/
set_option maxRecDepth 100000
set_option linter.unusedVariables false
set_option linter.unusedSimpArgs false
set_option linter.unusedSectionVars false
namespace Go.Proofs.YtnigfiljenfgjaaGreat
open Go.Sh Go.RowKit

theorem delete_c {w : World} {s : SV} {ls : List Lock} (hr : RowAt w 95 4 s (ls.flatMap Lock.cells)) (hlen : ls.length <= 1000000) {k : Nat} (hk : k < ls.length) :
    Calls Tryz.prog 81 #[.slice s.a s.len s.cap, .int .i64 (k : Int), .int .i64 ((k : Int) + 1)] w fun e w' => ∃ s' : SV, e = .returned (.slice s'.a s'.len s'.cap) /\ RowAt w' 95 4 s' ((ls.eraseIdx k).flatMap Lock.cells) /\ Fr (· ∈ blkOf s) w w' /\ blkOf s' = blkOf s := by
  have hsl : s.len = ls.length := by have := hr.1; rw [locks_len] at this; omega
  obtain ⟨hv, hc | ⟨g, cur, h3, h4, h5, h6, h7, h8⟩⟩ := hr
  · rw [hc] at hsl; simp at hsl; omega
  obtain ⟨i, hi, hz, hsz, hby⟩ := info_parts info70
  refine F81_calls s _ _ w _ ?_
  rw [F81_1, h3]
  have hcap : s.cap ≠ 0 := by omega
  have hsa : (Instr.sliceAt 65 (.slice (some ⟨g, 0, none⟩) s.len s.cap) (some (.int .i64 (k : Int))) (some (.int .i64 ((k : Int) + 1))) (some (.int .i64 ((s.len : Nat) : Int)))).run Tryz.prog w =
      .ok (sliced (some ⟨g, 0, none⟩) k (k + 1) s.len 4) w := by
    rw [run_sliceAt_slice (P := Tryz.prog) w 65 _ _ _ _ (by rw [elem50]; exact u50'), run_slice_lhm (P := Tryz.prog) w 65 (some ⟨g, 0, none⟩) s.len s.cap (by rw [elem50]; exact u50') .i64 .i64 .i64 (k : Int) ((k : Int) + 1) ((s.len : Nat) : Int) (by omega) (by omega) (by omega) (by omega)]
    have hso : (sizeOf (Tryz.prog.elem 65)).run Tryz.prog w = .ok 4 w := by rw [elem50]; simp [sizeOf, typeInfo, hi, hsz]
    rw [hso]
    simp only [Result.andThen_ok, Int.toNat_natCast]
    rw [show ((k : Int) + 1).toNat = k + 1 by omega]
  refine ⟨⟨if s.len = k then some ⟨g, 0, none⟩ else (some (⟨g, 0, none⟩ : Addr)).map (·.add (k * 4)), k + 1 - k, s.len - k⟩, w, hsa, ?_⟩
  refine Br.f (by simp; omega) ?_
  refine dwE_intro fun w3 hp3 hh3 => ?_
  have h43 := hp3.blk h4
  have hkn : ((k : Int) + 1).toNat = k + 1 := by omega
  rw [Int.toNat_natCast, hkn]
  refine ⟨by omega, by omega, by omega, by omega, by omega, by omega, ?_⟩
  obtain ⟨m, hm⟩ : ∃ m, m = s.len - (k + 1) := ⟨_, rfl⟩
  rw [← hm, if_neg hcap, Nat.sub_zero, Nat.sub_zero]
  have e0 : (some (⟨g, 0, none⟩ : Addr)).map (fun x => x.add (0 * 4)) = some ⟨g, 0, none⟩ := by simp [add_def]
  rw [e0]
  obtain ⟨a2, ha2, hc2⟩ : ∃ a2, (if s.cap = k + 1 then some (⟨g, 0, none⟩ : Addr) else (some (⟨g, 0, none⟩ : Addr)).map (fun x => x.add ((k + 1) * 4))) = some a2 /\ ∀ j u, (((ls.drop (k + 1)).flatMap Lock.cells))[j]? = some u -> w3.cell? (a2.add j) = some u := by
    by_cases e : s.cap = k + 1
    · rw [if_pos e]
      refine ⟨_, rfl, fun j u hu => ?_⟩
      have : ls.drop (k + 1) = [] := List.drop_of_length_le (by omega)
      rw [this] at hu; simp at hu
    · rw [if_neg e]
      refine ⟨⟨g, (k + 1) * 4, none⟩, by simp [add_def], fun j u hu => ?_⟩
      rw [add_def, cell_blk h43]
      rw [← flat_drop, List.getElem?_drop, ← h8, List.getElem?_take] at hu
      split at hu
      · simpa using hu
      · cases hu
  rw [ha2]
  have hnl : ((ls.drop (k + 1)).flatMap Lock.cells).length = m * i.size := by rw [hsz, locks_len, List.length_drop]; omega
  have hra := run_append_room (P := Tryz.prog) w3 65 65 95 i u50' hi g k s.cap cur h43 a2 m (s.cap - (k + 1)) ((ls.drop (k + 1)).flatMap Lock.cells) hnl hc2 (one_cells _) (by omega) (by rw [hnl, hsz, h7]; omega)
  rw [hsz] at hra hnl
  refine ⟨⟨some ⟨g, 0, none⟩, k + m, s.cap⟩, _, hra, ?_⟩
  have hb5 := setRow_heap w3 g cur (cur.toList.take (k * 4) ++ (ls.drop (k + 1)).flatMap Lock.cells ++ cur.toList.drop (k * 4 + ((ls.drop (k + 1)).flatMap Lock.cells).length)).toArray 95 (0, 0) h43
  have hf5 : Fr (· = g) w3 (w3.setRow g (cur.toList.take (k * 4) ++ (ls.drop (k + 1)).flatMap Lock.cells ++ cur.toList.drop (k * 4 + ((ls.drop (k + 1)).flatMap Lock.cells).length)).toArray) := ⟨rfl, rfl, rfl, by simp, fun j _ hj => setRow_other w3 g j _ hj⟩
  generalize (w3.setRow g (cur.toList.take (k * 4) ++ (ls.drop (k + 1)).flatMap Lock.cells ++ cur.toList.drop (k * 4 + ((ls.drop (k + 1)).flatMap Lock.cells).length)).toArray) = w5 at hb5 hf5
  refine ⟨by omega, by simp; omega, by omega, by simp; omega, ?_⟩
  simp only [Int.toNat_natCast]
  have hcm : ¬ s.cap = k + m := by omega
  rw [if_neg hcm, show s.len - (k + m) = 1 by omega]
  have e1 : (some (⟨g, 0, none⟩ : Addr)).map (fun x => x.add ((k + m) * 4)) = some ⟨g, (k + m) * 4, none⟩ := by simp [add_def]
  rw [e1]
  have hcl : cur.toList.length = s.cap * 4 := by simp [h7]
  obtain ⟨w6, hr6, hb6, hf6, hs6⟩ := clearOne (o := (k + m) * 4) (c := s.cap - (k + m)) hb5 (by simp; omega)
  refine ⟨w6, hr6, ⟨some ⟨g, 0, none⟩, k + m, s.cap⟩, rfl, ?_, ?_, by simp [blkOf, h3]⟩
  · have her : ls.eraseIdx k = ls.take k ++ ls.drop (k + 1) := List.eraseIdx_eq_take_drop_succ ls k
    have hfl : (ls.eraseIdx k).flatMap Lock.cells = (ls.take k).flatMap Lock.cells ++ (ls.drop (k + 1)).flatMap Lock.cells := by rw [her, List.flatMap_append]
    have htk : cur.toList.take (k * 4) = (ls.take k).flatMap Lock.cells := by
      rw [← flat_take, ← h8, List.take_take]; congr 1; omega
    have hl1 : ((ls.take k).flatMap Lock.cells).length = k * 4 := by rw [locks_len, List.length_take]; omega
    refine ⟨?_, .inr ⟨g, _, rfl, hb6, by show k + m <= s.cap; omega, h6, ?_, ?_⟩⟩
    · rw [hfl, List.length_append, hl1, hnl]; show _ = (k + m) * 4; omega
    · simp only [List.size_toArray, List.length_append, List.length_take, List.length_drop, Array.length_toList, List.toList_toArray, Lock.cells, List.length_cons, List.length_nil]
      show _ = s.cap * 4
      have := hnl
      simp only [Array.length_toList] at hcl
      omega
    · show List.take ((k + m) * 4) _ = _
      rw [hfl, htk]
      have hl2 : ((ls.take k).flatMap Lock.cells ++ (ls.drop (k + 1)).flatMap Lock.cells).length = (k + m) * 4 := by rw [List.length_append, hl1, hnl]; omega
      simp only [List.toList_toArray]
      have hLl : (k + m) * 4 <= ((ls.take k).flatMap Lock.cells ++ (ls.drop (k + 1)).flatMap Lock.cells ++ cur.toList.drop (k * 4 + ((ls.drop (k + 1)).flatMap Lock.cells).length)).length := by
        rw [List.length_append, hl2]; omega
      rw [List.take_append_of_le_length (by rw [List.length_append, List.length_take, Nat.min_eq_left hLl]; omega), List.take_append_of_le_length (by rw [List.length_take, Nat.min_eq_left hLl]; exact Nat.le_refl _), List.take_take, Nat.min_self,
        List.take_append_of_le_length (by rw [hl2]; exact Nat.le_refl _), ← hl2, List.take_length]
  · exact ((Fr.pu hp3 : Fr (· ∈ blkOf s) w w3).trans hf5 fun j hj _ => by simp [blkOf, h3, show j = g from hj]).trans hf6 fun j hj _ => by simp [blkOf, h3, show j = g from hj]

def unlockC (u : Int) (name : ByteArray) (at_ n : Int) (σ : Sys) : Int := if enterC u name σ = 0 then (if (⟨u, name, at_, n⟩ : Lock) ∈ σ.locks then 0 else 4) else enterC u name σ
theorem erase_first {ls : List Lock} {lk : Lock} : ∀ {k : Nat}, ls[k]? = some lk -> (∀ j, j < k -> ls[j]? ≠ some lk) -> ls.eraseIdx k = ls.erase lk := by
  induction ls with
  | nil => intro k h; simp at h
  | cons l ls ih =>
    intro k h hall
    cases k with
    | zero => simp at h; subst h; simp
    | succ k =>
      have hne : l ≠ lk := fun e => hall 0 (by omega) (by simp [e])
      rw [List.eraseIdx_cons_succ, List.erase_cons_tail (by simpa using hne), ih (by simpa using h) fun j hj => by have := hall (j + 1) (by omega); simpa using this]
theorem unlock_any {w : World} {d : Lay} {σ : Sys} (h : SysAt w d 0 σ) (hG : Good σ) (hL : LocksOk σ) (u : Int) (name : ByteArray) (at_ n : Int) :
    Calls Tryz.prog 31 #[d.ptr, .int .i64 u, .string name, .int .i64 at_, .int .i64 n] w fun e w' => e = .returned (.int .i64 (unlockC u name at_ n σ)) /\
      ((unlockC u name at_ n σ ≠ 0 /\ Left w w' d d σ) ∨ (unlockC u name at_ n σ = 0 /\ ∃ d' ps, ps.Perm (((σ.caches u.toNat).map Prod.fst).filter (inPages name at_ n)) /\
        Left w w' d d' { (wrAll u.toNat name ps (σ, 0)).1 with locks := σ.locks.erase ⟨u, name, at_, n⟩ })) := by
  refine F31_calls _ _ _ _ _ w _ ?_
  refine Calls.mono (enter_c h u name) ?_
  rintro e w2 ⟨rfl, h2, hf2⟩
  have hf2' : Fr (· ∈ d.own) w w2 := hf2.mono fun i hi _ => by rw [show i = d.S from hi]; exact mem_S d
  have bad : ∀ m : Int, ∀ w6, unlockC u name at_ n σ = m -> m ≠ 0 -> SysAt w6 d 1 σ -> Fr (· ∈ d.own) w w6 -> runD Tryz.prog [leaveD d] w6 fun w' => Ending.returned (Value.int .i64 m) = .returned (.int .i64 (unlockC u name at_ n σ)) /\
      ((unlockC u name at_ n σ ≠ 0 /\ Left w w' d d σ) ∨ (unlockC u name at_ n σ = 0 /\ ∃ d' ps, ps.Perm (((σ.caches u.toNat).map Prod.fst).filter (inPages name at_ n)) /\
        Left w w' d d' { (wrAll u.toNat name ps (σ, 0)).1 with locks := σ.locks.erase ⟨u, name, at_, n⟩ })) := fun m w6 hm h0 h6 hf6 =>
    leave_left h6 hf6 fun w' hLf _ => ⟨by rw [hm], .inl ⟨by rw [hm]; exact h0, hLf⟩⟩
  refine ⟨_, _, rfl, Br.of (fun he => ?_) (fun he => ?_)⟩
  · have he : enterC u name σ ≠ 0 := by simpa using he
    exact bad _ w2 (by simp [unlockC, he]) he h2 hf2'
  have he : enterC u name σ = 0 := by simpa using he
  obtain ⟨hu0, hu4, f, hf⟩ := enterC_zero he
  obtain ⟨un, rfl⟩ := Int.eq_ofNat_of_zero_le hu0
  have hun : un < 4 := by omega
  refine ⟨d.ls, h2.cellL, ?_⟩
  refine Calls.mono (index_c h2.lk hL.2 ⟨(un : Int), name, at_, n⟩) ?_
  rintro e w3 ⟨n3, rfl, hp3, hix⟩
  have h3 := h2.pu hp3
  have hF3 : Fr (· ∈ d.own) w w3 := hf2'.trans (Fr.pu hp3 : Fr (· ∈ d.own) w2 w3) fun i hi _ => hi
  refine ⟨n3, rfl, ?_⟩
  rcases hix with ⟨rfl, hno⟩ | ⟨kx, rfl, hkx, hfirst⟩
  · exact Br.t rfl (bad 4 w3 (by simp only [unlockC, he, if_true, hno, if_false]) (by decide) h3 hF3)
  have hmem : (⟨(un : Int), name, at_, n⟩ : Lock) ∈ σ.locks := List.mem_of_getElem? hkx
  have hok := hL.1 _ hmem
  have ha : 0 <= at_ /\ at_ <= 131072 := ⟨hok.1, hok.2.1⟩
  have hn : 0 <= n /\ n <= 131072 := ⟨hok.2.2.1, hok.2.2.2⟩
  have hC0 : unlockC (un : Int) name at_ n σ = 0 := by simp only [unlockC, he, if_true, hmem]
  refine Br.f (decide_eq_false (by omega)) ?_
  refine Calls.mono (pages_c h3 hG.near hun name (by omega) (by omega) (hG.cnt un hun)) ?_
  rintro e w4 ⟨l, ps, rfl, hrow, hperm, hp4, hblk⟩
  refine ⟨l, rfl, ?_⟩
  have hfl := flat_len ps
  have hl : l.len = ps.length := by have := hrow.1; omega
  rw [hl]
  have hps : ∀ p ∈ ps, p ∈ (σ.caches un).map Prod.fst /\ p.1 = name := fun p hp => by
    obtain ⟨h1, h2⟩ := List.mem_filter.1 (hperm.mem_iff.1 hp)
    exact ⟨h1, (of_decide_eq_true h2).1⟩
  have hcnt : ps.length <= 1000000 := by
    have h1 := hperm.length_eq
    have h2 := List.length_filter_le (inPages name at_ n) ((σ.caches un).map Prod.fst)
    have h3 := hG.cnt un hun
    simp at h2; omega
  have hlocks : ∀ (qs : List Place) (s : Sys × Nat), (wrAll un name qs s).1.locks = s.1.locks := fun qs => by
    induction qs with
    | nil => intro s; rfl
    | cons q qs ih => intro s; simp only [wrAll]; rw [ih]; rfl
  refine loopUp ps.length (fun k t w' => t = (k : Int) /\ SysAt w' d 1 (wrAll un name (ps.take k) (σ, 0)).1 /\ RowAt w' 92 2 l (ps.flatMap placeCells) /\ Fr (· ∈ d.own) w w') ⟨rfl, h3.pu hp4, hrow, hF3.trans (Fr.pu hp4 : Fr (· ∈ d.own) w3 w4) fun i hi _ => hi⟩ ?_
  rintro k J t w' hk ⟨rfl, hS, hrw, hfr⟩ hJ
  refine Br.of (fun hlt => ?_) (fun hge => ?_)
  · have hlt' : k < ps.length := by have := dtrue hlt; omega
    obtain ⟨p, hp⟩ : ∃ p, ps[k]? = some p := ⟨_, List.getElem?_eq_getElem hlt'⟩
    obtain ⟨g1, g2⟩ := flat_get ps hp
    obtain ⟨g, hga, hgc, hgb⟩ := hrw.base (fun e => by rw [e] at g1; simp at g1)
    have hpk := hps p (List.mem_of_getElem? hp)
    obtain ⟨nm, q⟩ := p
    have hnm : nm = name := hpk.2
    rw [hnm] at hp g1 hpk
    obtain ⟨pg, hg⟩ := AL.get_isSome hpk.1
    have hq := (hG.near un hun _ (AL.get_mem hg)).1
    simp only at hq
    obtain ⟨kk, rfl⟩ := Int.eq_ofNat_of_zero_le hq
    obtain ⟨hGk, hKk, hNk⟩ := wrAll_good hun hG (ps.take k) 0 (name := name) fun p' hp' => hps p' (List.mem_of_mem_take hp')
    refine ⟨⟨g, 0, none⟩, hga, by omega, by omega, name, ?_, (kk : Int), ?_, ?_⟩
    · rw [add_def, add_def]; rw [← hgc (k * 2) _ g1]; congr 2; omega
    · rw [add_def, add_def]; rw [← hgc (k * 2 + 1) _ g2]; congr 2; omega
    refine alE_intro fun w5 hw5 => ?_
    have hp5 : Pu w' w5 := by rw [hw5]; exact Pu.alloc w' _
    have hb5 : w5.heap[w'.heap.size]? = some (.cells #[.string ⟨#[]⟩, .int .i64 0] 92) := by rw [hw5]; exact alloc_new w' _
    refine stA_fill hb5 (by rw [size66]; rfl) rfl rfl fun w6 hb6 hf6 hs6 => ?_
    have hP6 : Pu w' w6 := hp5.andNew hf6 fun i hi => by omega
    refine ⟨name, by rw [add_def, cell_blk hb6]; rfl, (kk : Int), by rw [add_def, cell_blk hb6]; rfl, ?_⟩
    obtain ⟨b1, f', hf', hfl', hfi'⟩ := hGk.page hun (name := name) (kk := kk) (by rw [hKk]; exact hpk.1)
    refine Calls.mono (written_c (hS.pu hP6) hun b1 hf' hfl' fun i hi hd => hfi' i hi (.inr hd)) ?_
    rintro e w7 ⟨rfl, h7, hf7⟩
    refine ⟨_, rfl, ?_⟩
    rw [wrap_in (by omega) (by omega)]
    have htk : ps.take (k + 1) = ps.take k ++ [(name, (kk : Int))] := by rw [List.take_add_one, hp]; rfl
    have hle2 : w.heap.size <= w2.heap.size := hf2'.size
    refine hJ _ _ hlt' ⟨by omega, ?_, ?_, ?_⟩
    · rw [htk, wrAll_snoc]; simpa using h7
    · exact (hrw.pu hP6).fr hf7 fun b hb hbo => by have := hblk b hb; have := h3.lt b hbo; omega
    · exact (hfr.trans (Fr.pu hP6 : Fr (· ∈ d.own) w' w6) fun i hi _ => hi).trans hf7 fun i hi _ => hi
  · have hk' : k = ps.length := by have := dfalse hge; omega
    subst hk'
    rw [List.take_length] at hS
    generalize hσ : (wrAll un name ps (σ, 0)).1 = σk at hS
    have hlk : σk.locks = σ.locks := by rw [← hσ, hlocks]
    have hkl : kx < σk.locks.length := by rw [hlk]; exact (List.getElem?_eq_some_iff.1 hkx).1
    have hlen := hL.2
    have hkx1 : kx < σ.locks.length := (List.getElem?_eq_some_iff.1 hkx).1
    refine ⟨d.ls, hS.cellL, ?_⟩
    rw [wrap_in (by omega) (by omega)]
    refine Calls.mono (delete_c hS.lk (by rw [hlk]; exact hlen) hkl) ?_
    rintro e w5 ⟨s', rfl, hrow5, hf5, hbs⟩
    refine ⟨s', rfl, ?_⟩
    obtain ⟨n1, n2, n3, n4, n5⟩ := hS.ne
    have hS5 := hf5.blk hS.st fun hb => (n4 _ hb).1 rfl
    rw [ptrE_some, add_def]
    refine st1_intro hS5 (by simp) fun w6 hw6 hb6 => ?_
    have hf6 : Fr (· = d.S) w5 w6 := by rw [hw6]; exact Fr.cell w5 _ _ _
    have hlsown : ∀ b ∈ blkOf d.ls, b ∈ d.own := fun b hb => by simp only [Lay.own, List.mem_cons, List.mem_append]; exact .inr (.inr (.inr (.inr (.inr (.inr (.inl hb))))))
    have h6 := hS.setLocks (ls' := s') (locks' := σk.locks.eraseIdx kx) (hrow5.fr hf6 fun b hb e => (n4 b (by rw [← hbs]; exact hb)).1 e) ((hf5.mono fun i hi _ => .inl hi).trans hf6 fun i hi _ => .inr hi) (by rw [hb6]; rfl) fun b hb => .inl (by rw [← hbs]; exact hb)
    have hF6 : Fr (· ∈ d.own) w w6 := (hfr.trans hf5 fun i hi _ => hlsown i hi).trans hf6 fun i hi _ => by rw [show i = d.S from hi]; exact mem_S d
    have hown' : ∀ b ∈ ({ d with ls := s' } : Lay).own, b ∈ d.own := fun b hb => by
      simp only [Lay.own, List.mem_cons, List.mem_append, hbs] at hb ⊢; exact hb
    rw [hlk, erase_first hkx hfirst] at h6
    refine leave_c (d := { d with ls := s' }) h6 fun w9 h9 hf9 _ => ⟨by rw [hC0], .inr ⟨hC0, { d with ls := s' }, ps, hperm, ⟨?_, hF6.trans hf9 fun i hi _ => by rw [show i = d.S from hi]; exact mem_S d, fun b hb => .inl (hown' b hb), rfl⟩⟩⟩
    rw [Int.toNat_natCast, hσ]
    exact h9
end Go.Proofs.YtnigfiljenfgjaaGreat
