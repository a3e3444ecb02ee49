/- The disk: the law that is in each statement: a station sees an old byte until it locks it. -/
import Derived.Test.YtnigfiljenfgjaaGreatDzO
set_option maxRecDepth 100000
set_option linter.unusedVariables false
set_option linter.unusedSimpArgs false
set_option linter.unusedSectionVars false
namespace Go.Proofs.YtnigfiljenfgjaaGreat
open Go.Sh Go.RowKit

def nF : ByteArray := ⟨#[70]⟩
theorem isNm_F : isNm nF := by decide
theorem enter_F {u : Int} (h0 : 0 ≤ u) (h4 : u < 4) {σ : Sys} {f : List UInt8} (hf : AL.get σ.files nF = some f) : enterC u nF σ = 0 := by
  unfold enterC
  rw [if_neg (by rintro (h | h | h); omega; omega; exact h isNm_F), hf]; rfl
theorem fileOf_eq {σ : Sys} {name : ByteArray} {f : List UInt8} (hf : AL.get σ.files name = some f) : fileOf σ name = f := by simp [fileOf, hf]

/-! ### One byte read or written -/
theorem each_one {τ : Type} (step : τ → Page → Nat → Nat → τ × Page) (u : Nat) (name : ByteArray) (at_ : Nat) (f : List UInt8) (σ : Sys) (t : τ) : eachS step u name at_ 1 f 1 σ t 0 =
    (σ.setCache u (AL.put (σ.caches u) (name, ((at_ / 32 : Nat) : Int)) (step t (pageR σ u name (at_ / 32) at_ 1 f) (at_ % 32) 0).2), (step t (pageR σ u name (at_ / 32) at_ 1 f) (at_ % 32) 0).1) := by
  have hm : min (32 - at_ % 32) (1 - 0) = 1 := by omega
  simp only [eachS, Nat.lt_one_iff, if_true, Nat.add_zero, hm, innerS]
theorem read1 {σ : Sys} {u : Nat} (hu : u < 4) {f : List UInt8} (hf : AL.get σ.files nF = some f) {at_ : Nat} (hat : at_ < f.length) : readC (u : Int) nF (at_ : Int) 1 σ = 0 ∧
    readR (u : Int) nF (at_ : Int) 1 σ = (σ.setCache u (AL.put (σ.caches u) (nF, ((at_ / 32 : Nat) : Int)) (pageR σ u nF (at_ / 32) at_ 1 f)), [(pageR σ u nF (at_ / 32) at_ 1 f).b (at_ % 32)]) := by
  have hc : readC (u : Int) nF (at_ : Int) 1 σ = 0 := by
    unfold readC
    rw [enter_F (by omega) (by omega) hf, fileOf_eq hf, if_pos rfl, if_neg (by omega), if_neg (by omega), if_neg (by omega), if_neg (by omega)]
  refine ⟨hc, ?_⟩
  simp only [readR, hc, if_true, fileOf_eq hf, Int.toNat_natCast]
  rw [show (1 : Int).toNat = 1 by rfl, each_one]
  rfl
def wpg (pg : Page) (i : Nat) (x : UInt8) : Page := { b := upN pg.b i x, kn := upN pg.kn i true, di := upN pg.di i true }
theorem write1 {σ : Sys} {u : Nat} (hu : u < 4) {f : List UInt8} (hf : AL.get σ.files nF = some f) {at_ : Nat} (hat : at_ < f.length) (x : UInt8) : writeC (u : Int) nF (at_ : Int) [x] σ = 0 ∧
    writeS (u : Int) nF (at_ : Int) [x] σ = σ.setCache u (AL.put (σ.caches u) (nF, ((at_ / 32 : Nat) : Int)) (wpg (pageR σ u nF (at_ / 32) at_ 1 f) (at_ % 32) x)) := by
  have hc : writeC (u : Int) nF (at_ : Int) [x] σ = 0 := by
    unfold writeC
    rw [enter_F (by omega) (by omega) hf, fileOf_eq hf, if_pos rfl, if_neg (by omega), if_neg (by omega), if_neg (by simp; omega)]
  refine ⟨hc, ?_⟩
  simp only [writeS, hc, if_true, fileOf_eq hf, Int.toNat_natCast, List.length_singleton]
  rw [each_one]
  rfl

/-! ### A file of zeros -/
def base (n : Nat) : Sys := ⟨[(nF, List.replicate n 0)], fun _ => [], []⟩
theorem make_new : makeC nF Sys.new = 0 ∧ makeS nF Sys.new = base 0 := by
  have he : enterC 0 nF Sys.new = 4 := by
    unfold enterC
    rw [if_neg (by rintro (h | h | h); omega; omega; exact h isNm_F)]; rfl
  have hc : makeC nF Sys.new = 0 := by unfold makeC; rw [he]; rfl
  exact ⟨hc, by simp only [makeS, hc, if_true]; rfl⟩
theorem base_file (n : Nat) : AL.get (base n).files nF = some (List.replicate n 0) := by simp [base, AL.get]
theorem shorts_base (n m : Nat) : ∀ k, shorts (base n) nF m k = base n
  | 0 => rfl
  | k + 1 => by
    simp only [shorts, shorts_base n m k, shortS]
    have : (base n).caches k = [] := rfl
    rw [this, List.filterMap_nil, ← this, setCache_self]
theorem resize_base {n : Nat} (hn : n ≤ 65536) : resizeC nF (n : Int) (base 0) = 0 ∧ resizeS nF (n : Int) (base 0) = base n := by
  have hc : resizeC nF (n : Int) (base 0) = 0 := by
    unfold resizeC
    rw [enter_F (by omega) (by omega) (base_file 0), if_pos rfl, if_neg (by omega), if_neg (by omega)]
  refine ⟨hc, ?_⟩
  simp only [resizeS, hc, if_true, Int.toNat_natCast, fileOf_eq (base_file 0)]
  have : ({ base 0 with files := AL.put (base 0).files nF (sized (List.replicate 0 0) n) } : Sys) = base n := by
    simp [base, AL.put, sized]
  rw [this]; exact shorts_base n n 4
theorem good_base {n : Nat} (hn : n ≤ 1000000) : Good (base n) := by
  refine ⟨fun name f hf => ?_, fun u hu q hq => (by cases hq), fun u hu => Nat.zero_le _, fun u hu q hq => (by cases hq)⟩
  simp only [base, AL.get] at hf
  split at hf
  · cases hf; simpa using hn
  · cases hf
theorem sizes_base (n : Nat) : Sizes 0 (base n) := fun u hu => Nat.le_refl _

/-! ### Flushing one page -/
theorem flush1 {σ : Sys} {u kk : Nat} {pg : Page} (hc : σ.caches u = [((nF, (kk : Int)), pg)]) (hk : kk < 2048) {ps : List Place} (hp : ps.Perm (((σ.caches u).map Prod.fst).filter (inPages nF 0 65536))) :
    wrAll u nF ps (σ, 0) = (writtenS σ u nF kk, wrN pg 32) := by
  have hin : inPages nF 0 65536 (nF, (kk : Int)) = true := by
    show decide (nF = nF ∧ (kk : Int) * 32 < 0 + 65536 ∧ 0 < ((kk : Int) + 1) * 32) = true
    exact decide_eq_true ⟨rfl, by omega, by omega⟩
  rw [hc] at hp
  simp only [List.map_cons, List.map_nil, List.filter_cons, hin, if_true, List.filter_nil] at hp
  rw [List.perm_singleton.1 hp]
  have hpg : pageOf σ u (nF, (kk : Int)) = pg := by simp [pageOf, hc, AL.get]
  simp [wrAll, hpg]

/-- What goes on from a call of a method. -/
theorem Left.next {w0 w w' : World} {d d' : Lay} {σ' : Sys} (hL : Left w w' d d' σ') (hp : Pu w0 w) (ho : ∀ b ∈ d.own, w0.heap.size ≤ b) : Pu w0 w' ∧ ∀ b ∈ d'.own, w0.heap.size ≤ b :=
  ⟨hp.andNew hL.fr ho, fun b hb => (hL.own b hb).elim (ho b) fun h => Nat.le_trans hp.size h⟩
theorem Left.keep {w w' : World} {d d' : Lay} {σ' : Sys} (hL : Left w w' d d' σ') {l : SV} {vs : List Value} (hr : RowAt w 5 1 l vs) (hn : ∀ b ∈ blkOf l, b ∉ d.own) : RowAt w' 5 1 l vs ∧ ∀ b ∈ blkOf l, b ∉ d'.own :=
  ⟨hr.fr hL.fr fun b hb => hn b hb, fun b hb ho => (hL.own b ho).elim (hn b hb) fun h => by have := hr.lt b hb; omega⟩
theorem Left.ptrEq {w w' : World} {d d' : Lay} {σ' : Sys} (hL : Left w w' d d' σ') : d.ptr = d'.ptr := by simp [Lay.ptr, hL.ptr]

theorem bytes_lit (s : ByteArray) (l : List UInt8) (h : s.data.toList = l) (t : ByteArray) (ht : t.data.toList = l) : (s.toList == t.toList) = true := by
  rw [toList_beq]
  have : s = t := by
    obtain ⟨⟨a⟩⟩ := s
    obtain ⟨⟨b⟩⟩ := t
    simp only at h ht
    rw [h, ht]
  simp [this]
theorem locksOk_nil {σ : Sys} (h : σ.locks = []) : LocksOk σ := ⟨fun l hl => (by rw [h] at hl; cases hl), by rw [h]; simp⟩

set_option maxHeartbeats 200000 in
theorem known_c (w : World) : Calls Tryz.prog 8 #[] w fun e w' => e = .returned (.bool true) ∧ Pu w w' := by
  refine F8_calls w _ ?_
  refine Calls.mono (new_c w) ?_
  rintro e w1 ⟨rfl, h1, hp1⟩
  have ho1 : ∀ b ∈ (newLay w.heap.size).own, w.heap.size ≤ b := fun b hb => by
    simp [newLay, Lay.own, blkOf] at hb; omega
  generalize newLay w.heap.size = d at h1 ho1 ⊢
  refine ⟨some ⟨d.S, 0, none⟩, rfl, false, w1, eqS_ptr_nil u23 _ _ _ w1, ?_⟩
  obtain ⟨m1, m2⟩ := make_new
  refine Calls.mono (make_c h1 nF) ?_
  rintro e w2 ⟨rfl, d2, hL2⟩
  rw [m2] at hL2
  rw [m1]
  obtain ⟨hp2, ho2⟩ := hL2.next hp1 ho1
  refine ⟨0, rfl, ?_⟩
  obtain ⟨r1, r2⟩ := resize_base (n := 4) (by omega)
  show Calls Tryz.prog 24 #[d.ptr, .string nF, .int .i64 ((4 : Nat) : Int)] w2 _
  rw [hL2.ptrEq]
  refine Calls.mono (resize_c hL2.sys (good_base (by omega)).small (good_base (by omega)).near nF ((4 : Nat) : Int)) ?_
  rintro e w3 ⟨rfl, d3, hL3⟩
  rw [r2] at hL3
  rw [r1]
  obtain ⟨hp3, ho3⟩ := hL3.next hp2 ho2
  refine ⟨0, rfl, ?_⟩
  have hptr3 : d.ptr = d3.ptr := hL2.ptrEq.trans hL3.ptrEq
  -- station 0 reads
  have hf3 := base_file 4
  obtain ⟨q1, q2⟩ := read1 (σ := base 4) (u := 0) (by omega) hf3 (at_ := 0) (by simp)
  simp only [Nat.zero_div, Nat.zero_mod] at q2
  show Calls Tryz.prog 13 #[d.ptr, .int .i64 ((0 : Nat) : Int), .string nF, .int .i64 ((0 : Nat) : Int), .int .i64 1] w3 _
  rw [hptr3]
  refine Calls.mono (read_c hL3.sys (good_base (by omega)).small ((0 : Nat) : Int) nF ((0 : Nat) : Int) 1) ?_
  rintro e w4 ⟨l4, rfl, hL4, hr4, hb4⟩
  rw [q2] at hL4
  rw [q1]
  obtain ⟨hp4, ho4⟩ := hL4.next hp3 ho3
  refine ⟨l4, 0, rfl, ?_⟩
  generalize hA : pageR (base 4) 0 nF 0 0 1 (List.replicate 4 0) = pA at hL4
  have hA0 : pA.b 0 = 0 ∧ pA.kn 0 = true ∧ pA.di 0 = false := by rw [← hA]; exact ⟨rfl, rfl, rfl⟩
  obtain ⟨hG4, hN4⟩ := (good_base (n := 4) (by omega)).setPage (u := 0) (by omega) (name := nF) (kk := 0) (by omega) hf3 (pg := pA) (by rw [← hA]; exact (good_base (by omega)).pgOk (by omega) hf3 0 1) (sizes_base 4) (by omega)
  generalize hσ4 : (base 4).setCache 0 (AL.put ((base 4).caches 0) (nF, ((0 : Nat) : Int)) pA) = σ4 at hL4 hG4 hN4
  have hf4 : AL.get σ4.files nF = some (List.replicate 4 0) := by rw [← hσ4]; exact hf3
  have hc40 : σ4.caches 0 = [((nF, ((0 : Nat) : Int)), pA)] := by rw [← hσ4]; rfl
  have hc41 : σ4.caches 1 = [] := by rw [← hσ4]; rfl
  have hl4 : σ4.locks = [] := by rw [← hσ4]; rfl
  refine alE_intro fun w5 hw5 => ?_
  have hq5 : Pu w4 w5 := by rw [hw5]; exact Pu.alloc w4 _
  have hb5 : w5.heap[w4.heap.size]? = some (.cells #[.int .u8 7] 5) := by rw [hw5]; exact alloc_new w4 _
  have h5 := hL4.sys.pu hq5
  have hsl : RdSl w5 ⟨some ⟨w4.heap.size, 0, none⟩, 1, 1⟩ [(7 : UInt8)] := ⟨rfl, Nat.le_refl _, by simp, fun i x hx => by
    have hi : i = 0 := by cases i with
      | zero => rfl
      | succ i => simp at hx
    subst hi
    simp at hx; subst hx
    refine ⟨_, rfl, [.int .u8 7], rfl, fun j v hv => ?_⟩
    have hj : j = 0 := by cases j with
      | zero => rfl
      | succ j => simp at hv
    subst hj
    rw [add_def, add_def, cell_blk hb5]; simpa using hv⟩
  -- station 1 writes
  obtain ⟨q3, q4⟩ := write1 (σ := σ4) (u := 1) (by omega) hf4 (at_ := 0) (by simp) 7
  simp only [Nat.zero_div, Nat.zero_mod] at q4
  show Calls Tryz.prog 25 #[d.ptr, .int .i64 ((1 : Nat) : Int), .string nF, .int .i64 ((0 : Nat) : Int), .slice (some ⟨w4.heap.size, 0, none⟩) 1 1] w5 _
  rw [hptr3]
  have hwr := write_c h5 hG4.small ((1 : Nat) : Int) nF ((0 : Nat) : Int) (l := ⟨some ⟨w4.heap.size, 0, none⟩, 1, 1⟩) (bs := [7]) hsl fun b hb => by
    simp [blkOf] at hb; subst hb
    exact ⟨blk_lt hb5, fun ho => by have := hL4.sys.lt _ ho; omega⟩
  refine Calls.mono hwr ?_
  rintro e w6 ⟨rfl, hL6⟩
  rw [q4] at hL6
  rw [q3]
  obtain ⟨hp6, ho6⟩ := hL6.next (hp4.trans hq5) ho4
  refine ⟨0, rfl, ?_⟩
  generalize hB : wpg (pageR σ4 1 nF 0 0 1 (List.replicate 4 0)) 0 7 = pB at hL6
  have hpR : pageR σ4 1 nF 0 0 1 (List.replicate 4 0) = fetchP (List.replicate 4 0) 0 32 Page.zero := by simp [pageR, hc41, AL.get]
  have hBd : ∀ j, j < 32 → (pB.di j = true ↔ j = 0) := fun j hj => by
    rw [← hB, hpR]; simp only [wpg, upN]
    by_cases e : j = 0
    · simp [e]
    · simp [e, fetchP, Page.zero]
  have hBb : pB.b 0 = 7 := by rw [← hB]; simp [wpg, upN]
  obtain ⟨hG6, hN6⟩ := hG4.setPage (u := 1) (by omega) (name := nF) (kk := 0) (by omega) hf4 (pg := pB) (by
    rw [← hB, hpR]
    intro j hj hkd
    by_cases e : j = 0
    · subst e; simp
    · simp only [wpg, upN, e, if_false] at hkd
      exact (PgOk.zero 0 _).fetch 32 j hj hkd) hN4 (by omega)
  generalize hσ6 : σ4.setCache 1 (AL.put (σ4.caches 1) (nF, ((0 : Nat) : Int)) pB) = σ6 at hL6 hG6 hN6
  have hf6 : AL.get σ6.files nF = some (List.replicate 4 0) := by rw [← hσ6]; exact hf4
  have hc60 : σ6.caches 0 = [((nF, ((0 : Nat) : Int)), pA)] := by rw [← hσ6]; exact hc40
  have hc61 : σ6.caches 1 = [((nF, ((0 : Nat) : Int)), pB)] := by rw [← hσ6]; simp [Sys.setCache, hc41, AL.put]
  have hl6 : σ6.locks = [] := by rw [← hσ6]; exact hl4
  -- station 1 flushes
  show Calls Tryz.prog 26 #[d.ptr, .int .i64 ((1 : Nat) : Int), .string nF] w6 _
  rw [hptr3]
  refine Calls.mono (flush_c hL6.sys hG6 ((1 : Nat) : Int) nF) ?_
  rintro e w7 ⟨n7, rfl, hcase⟩
  have he6 : enterC ((1 : Nat) : Int) nF σ6 = 0 := enter_F (by omega) (by omega) hf6
  rcases hcase with ⟨hne, _⟩ | ⟨_, ps, hps, rfl, hL7⟩
  · exact absurd he6 hne
  rw [Int.toNat_natCast] at hps hL7
  rw [Int.toNat_natCast, flush1 hc61 (by omega) hps]
  rw [flush1 hc61 (by omega) hps] at hL7
  obtain ⟨hp7, ho7⟩ := hL7.next hp6 ho6
  obtain ⟨wF, wN⟩ := wrF_one pB 0 0 (List.replicate 4 0) hBd 32 (by omega)
  simp only [wN, he6]
  refine ⟨1, 0, rfl, ?_⟩
  have hpB : pageOf σ6 1 (nF, ((0 : Nat) : Int)) = pB := by simp [pageOf, hc61, AL.get]
  have hG7 := hG6.written (u := 1) (by omega) (name := nF) (kk := 0) (by rw [hc61]; simp)
  have hf7 : AL.get (writtenS σ6 1 nF 0).files nF = some [7, 0, 0, 0] := by
    simp only [writtenS, Sys.setCache, AL.get_put, if_true, hpB, fileOf_eq hf6, wF, hBb]; rfl
  have hc70 : (writtenS σ6 1 nF 0).caches 0 = [((nF, ((0 : Nat) : Int)), pA)] := by simp only [writtenS, Sys.setCache]; exact hc60
  have hl7 : (writtenS σ6 1 nF 0).locks = [] := hl6
  have hN7 : Sizes 2 (writtenS σ6 1 nF 0) := fun v hv => by
    have := congrArg List.length (written_keys (σ := σ6) (u := 1) (name := nF) (kk := 0) (by rw [hc61]; simp) v)
    simp only [List.length_map] at this
    rw [this]; exact hN6 v hv
  generalize writtenS σ6 1 nF 0 = σ7 at hL7 hG7 hf7 hc70 hl7 hN7
  -- station 0 reads the old byte
  obtain ⟨q5, q6⟩ := read1 (σ := σ7) (u := 0) (by omega) hf7 (at_ := 0) (by simp)
  simp only [Nat.zero_div, Nat.zero_mod] at q6
  show Calls Tryz.prog 13 #[d.ptr, .int .i64 ((0 : Nat) : Int), .string nF, .int .i64 ((0 : Nat) : Int), .int .i64 1] w7 _
  rw [hptr3]
  refine Calls.mono (read_c hL7.sys hG7.small ((0 : Nat) : Int) nF ((0 : Nat) : Int) 1) ?_
  rintro e w8 ⟨l8, rfl, hL8, hr8, hb8⟩
  rw [q6] at hL8 hr8
  rw [q5]
  obtain ⟨hp8, ho8⟩ := hL8.next hp7 ho7
  refine ⟨l8, 0, rfl, ?_⟩
  have hpR8 : pageR σ7 0 nF 0 0 1 [7, 0, 0, 0] = wantP 0 1 [7, 0, 0, 0] 0 32 pA := by simp [pageR, hc70, AL.get]
  have hP8 : PgOk 0 4 (wantP 0 1 [7, 0, 0, 0] 0 32 pA) := by
    have := hG7.pgOk (u := 0) (by omega) hf7 0 1 (kk := 0)
    rw [hpR8] at this; exact this
  have hA8 : (wantP 0 1 [7, 0, 0, 0] 0 32 pA).b 0 = 0 ∧ (wantP 0 1 [7, 0, 0, 0] 0 32 pA).kn 0 = true ∧ (wantP 0 1 [7, 0, 0, 0] 0 32 pA).di 0 = false := by simp [wantP, hA0]
  rw [hpR8] at hL8 hr8
  obtain ⟨hG8, hN8⟩ := hG7.setPage (u := 0) (by omega) (name := nF) (kk := 0) (by omega) hf7 (pg := wantP 0 1 [7, 0, 0, 0] 0 32 pA) hP8 hN7 (by omega)
  generalize hC : wantP 0 1 [7, 0, 0, 0] 0 32 pA = pC at hL8 hr8 hG8 hN8 hA8
  have hb8n : ∀ b ∈ blkOf l8, b ∉ d3.own := fun b hb ho => by have := hb8 b hb; have := hL7.sys.lt b ho; omega
  simp only [hA8.1] at hr8
  generalize hσ8 : σ7.setCache 0 (AL.put (σ7.caches 0) (nF, ((0 : Nat) : Int)) pC) = σ8 at hL8 hG8 hN8
  have hf8 : AL.get σ8.files nF = some [7, 0, 0, 0] := by rw [← hσ8]; exact hf7
  have hc80 : σ8.caches 0 = [((nF, ((0 : Nat) : Int)), pC)] := by rw [← hσ8]; simp [Sys.setCache, hc70, AL.put]
  have hl8 : σ8.locks = [] := by rw [← hσ8]; exact hl7
  -- station 0 locks
  show Calls Tryz.prog 27 #[d.ptr, .int .i64 ((0 : Nat) : Int), .string nF, .int .i64 0, .int .i64 1] w8 _
  rw [hptr3]
  refine Calls.mono (lock_c hL8.sys hG8 (locksOk_nil hl8) ((0 : Nat) : Int) nF 0 1) ?_
  have hlc : lockC ((0 : Nat) : Int) nF 0 1 σ8 = 0 := by
    unfold lockC
    rw [enter_F (by omega) (by omega) hf8, if_pos rfl, hl8]; rfl
  rintro e w9 ⟨rfl, hcase⟩
  rcases hcase with ⟨hne, _⟩ | ⟨_, d9, ps9, hps9, hL9⟩
  · exact absurd hlc hne
  rw [hlc]
  obtain ⟨hp9, ho9⟩ := hL9.next hp8 ho8
  refine ⟨0, rfl, ?_⟩
  rw [Int.toNat_natCast] at hps9 hL9
  have hin : inPages nF 0 1 (nF, ((0 : Nat) : Int)) = true := by
    show decide (nF = nF ∧ ((0 : Nat) : Int) * 32 < 0 + 1 ∧ 0 < (((0 : Nat) : Int) + 1) * 32) = true
    exact decide_eq_true ⟨rfl, by omega, by omega⟩
  rw [hc80] at hps9
  simp only [List.map_cons, List.map_nil, List.filter_cons, hin, if_true, List.filter_nil] at hps9
  rw [List.perm_singleton.1 hps9] at hL9
  simp only [refAll, Int.toNat_natCast] at hL9
  have hpC : pageOf (locked ((0 : Nat) : Int) nF 0 1 σ8) 0 (nF, ((0 : Nat) : Int)) = pC := by simp [pageOf, locked, hc80, AL.get]
  have hG8' : Good (locked ((0 : Nat) : Int) nF 0 1 σ8) := ⟨hG8.small, hG8.near, hG8.cnt, hG8.file⟩
  obtain ⟨hG9, _⟩ := hG8'.refresh (u := 0) (by omega) (name := nF) (kk := 0) (by simp [locked, hc80])
  have hf9 : AL.get (refreshS (locked ((0 : Nat) : Int) nF 0 1 σ8) 0 nF 0).files nF = some [7, 0, 0, 0] := hf8
  have hc90 : (refreshS (locked ((0 : Nat) : Int) nF 0 1 σ8) 0 nF 0).caches 0 = [((nF, ((0 : Nat) : Int)), refreshP [7, 0, 0, 0] 0 32 pC)] := by
    have : fileOf (locked ((0 : Nat) : Int) nF 0 1 σ8) nF = [7, 0, 0, 0] := fileOf_eq hf8
    simp only [refreshS, hpC, this]
    simp [Sys.setCache, locked, hc80, AL.put]
  generalize refreshS (locked ((0 : Nat) : Int) nF 0 1 σ8) 0 nF 0 = σ9 at hL9 hG9 hf9 hc90
  obtain ⟨hr9, hb9n⟩ := hL9.keep hr8 hb8n
  -- and reads the new byte
  obtain ⟨q7, q8⟩ := read1 (σ := σ9) (u := 0) (by omega) hf9 (at_ := 0) (by simp)
  simp only [Nat.zero_div, Nat.zero_mod] at q8
  show Calls Tryz.prog 13 #[d.ptr, .int .i64 ((0 : Nat) : Int), .string nF, .int .i64 ((0 : Nat) : Int), .int .i64 1] w9 _
  rw [hptr3, hL9.ptrEq]
  refine Calls.mono (read_c hL9.sys hG9.small ((0 : Nat) : Int) nF ((0 : Nat) : Int) 1) ?_
  rintro e w10 ⟨l10, rfl, hL10, hr10, hb10⟩
  rw [q8] at hr10
  rw [q7]
  obtain ⟨hp10, ho10⟩ := hL10.next hp9 ho9
  refine ⟨l10, 0, rfl, ?_⟩
  obtain ⟨hr10', _⟩ := hL10.keep hr9 hb9n
  have hv10 : (pageR σ9 0 nF 0 0 1 [7, 0, 0, 0]).b 0 = 7 := by
    simp [pageR, hc90, AL.get, wantP, refreshP, hA8]
  rw [hv10] at hr10
  obtain ⟨s1, hs1, hs1'⟩ := conv_str hr10'
  obtain ⟨s2, hs2, hs2'⟩ := conv_str hr10
  refine Br.t rfl (Br.t rfl (Br.t rfl (Br.t rfl (Br.t rfl ⟨s1, w10, hs1, Br.t (bytes_lit s1 _ hs1' _ rfl) ⟨s2, w10, hs2, ?_⟩⟩))))
  exact ⟨by rw [bytes_lit s2 _ hs2' _ rfl], hp10⟩
end Go.Proofs.YtnigfiljenfgjaaGreat
