/- The disk: bytes of one page that two stations write. -/
import Derived.Test.YtnigfiljenfgjaaDkP
set_option maxRecDepth 100000
set_option linter.unusedVariables false
set_option linter.unusedSimpArgs false
set_option linter.unusedSectionVars false
namespace Go.Proofs.Ytnigfiljenfgjaa
open Go.Sh Go.RowKit

theorem mod64 (n : Int) : ∃ m : Nat, m < 64 ∧ (IntKind.i64.wrap (n.tmod 64 + 64)).tmod 64 = (m : Int) := by
  have h1 : -64 < n.tmod 64 ∧ n.tmod 64 < 64 := by
    rcases Int.lt_or_le n 0 with h | h
    · have e : n.tmod 64 = -((-n).tmod 64) := by rw [Int.neg_tmod]; omega
      rw [e, Int.tmod_eq_emod_of_nonneg (by omega)]
      omega
    · rw [Int.tmod_eq_emod_of_nonneg h]; omega
  rw [wrap_in (by omega) (by omega), Int.tmod_eq_emod_of_nonneg (by omega)]
  exact ⟨((n.tmod 64 + 64) % 64).toNat, by omega, by omega⟩
theorem wpg_di (pg : Page) (i : Nat) (x : UInt8) (h : ∀ j, pg.di j = false) : ∀ j, j < 32 → ((wpg pg i x).di j = true ↔ j = i) := fun j _ => by
  simp only [wpg, upN]
  by_cases e : j = i
  · simp [e]
  · simp [e, h]
theorem rdsl_one {w : World} {b o n : Nat} {c : Array Value} {e : TypeId} (h : w.heap[b]? = some (.cells c e)) {x : UInt8} (hx : c[o]? = some (u8V x)) (hn : 1 ≤ n) : RdSl w ⟨some ⟨b, o, none⟩, 1, n⟩ [x] :=
  ⟨rfl, hn, by simp, fun i y hy => by
    have hi : i = 0 := by cases i with
      | zero => rfl
      | succ i => simp at hy
    subst hi
    simp at hy; subst hy
    refine ⟨_, rfl, [u8V x], rfl, fun j v hv => ?_⟩
    have hj : j = 0 := by cases j with
      | zero => rfl
      | succ j => simp at hv
    subst hj
    rw [add_def, add_def, cell_blk h]
    simp at hv; subst hv
    simpa using hx⟩

theorem bytes_rest {w0 w : World} {d : Lay} (h : SysAt w d 0 (base 64)) (hp : Pu w0 w) (ho : ∀ b ∈ d.own, w0.heap.size ≤ b) {r : Nat} {b0 b1 : UInt8} (hr : w.heap[r]? = some (.cells #[u8V b0, u8V b1] 22)) (hro : r ∉ d.own) {i k : Nat} (hi : i < 64) (hk : k < 64) (hik : i ≠ k) :
    F3_3 (fun e w' => e = .returned (.bool true) ∧ Pu w0 w') (i : Int) (k : Int) (some ⟨r, 0, none⟩) (some ⟨d.S, 0, none⟩) [] w := by
  have hf2 := base_file 64
  obtain ⟨q1, q2⟩ := write1 (σ := base 64) (u := 0) (by omega) hf2 (at_ := i) (by simpa using hi) b0
  have e1 : (if 2 = 0 then (⟨r, 0, none⟩ : Addr) else (⟨r, 0, none⟩ : Addr).add (0 * 1)) = ⟨r, 0, none⟩ := by simp [add_def]
  have e2 : (if 2 = (1 : Int).toNat then (⟨r, 0, none⟩ : Addr) else (⟨r, 0, none⟩ : Addr).add ((1 : Int).toNat * 1)) = ⟨r, 1, none⟩ := by simp [add_def]
  refine ⟨by omega, by decide, by omega, ?_⟩
  rw [e1]
  have hwr := write_c h (good_base (by omega)).small ((0 : Nat) : Int) nF (i : Int) (l := ⟨some ⟨r, 0, none⟩, 1, 2⟩) (bs := [b0]) (rdsl_one hr rfl (by omega)) fun b hb => by
    simp [blkOf] at hb; subst hb
    exact ⟨blk_lt hr, hro⟩
  refine Calls.mono hwr ?_
  rintro e w3 ⟨rfl, hL3⟩
  rw [q2] at hL3
  rw [q1]
  obtain ⟨hp3, ho3⟩ := hL3.next hp ho
  have hr3 := hL3.fr.blk hr hro
  have hi32 : i / 32 ≤ 1000000 := by omega
  have hpR3 : pageR (base 64) 0 nF (i / 32) i 1 (List.replicate 64 0) = fetchP (List.replicate 64 0) (i / 32) 32 Page.zero := by simp [pageR, base, AL.get]
  obtain ⟨hG3, hN3⟩ := (good_base (n := 64) (by omega)).setPage (u := 0) (by omega) (name := nF) (kk := i / 32) hi32 hf2 (pg := wpg (pageR (base 64) 0 nF (i / 32) i 1 (List.replicate 64 0)) (i % 32) b0)
    (stepOk_write [b0] (at_ := i) (n := 1) (by simp; omega) () _ (i % 32) 0 (i / 32) (by omega) (by omega) (by omega) ((good_base (by omega)).pgOk (by omega) hf2 i 1)) (sizes_base 64) (by omega)
  have hA := wpg_di (pageR (base 64) 0 nF (i / 32) i 1 (List.replicate 64 0)) (i % 32) b0 (fun j => by rw [hpR3]; rfl)
  have hAb : (wpg (pageR (base 64) 0 nF (i / 32) i 1 (List.replicate 64 0)) (i % 32) b0).b (i % 32) = b0 := by simp [wpg, upN]
  generalize wpg (pageR (base 64) 0 nF (i / 32) i 1 (List.replicate 64 0)) (i % 32) b0 = pA at hL3 hG3 hN3 hA hAb
  generalize hσ3 : (base 64).setCache 0 (AL.put ((base 64).caches 0) (nF, ((i / 32 : Nat) : Int)) pA) = σ3 at hL3 hG3 hN3
  have hf3 : AL.get σ3.files nF = some (List.replicate 64 0) := by rw [← hσ3]; exact hf2
  have hc30 : σ3.caches 0 = [((nF, ((i / 32 : Nat) : Int)), pA)] := by rw [← hσ3]; rfl
  have hc31 : σ3.caches 1 = [] := by rw [← hσ3]; rfl
  refine ⟨0, rfl, Br.f rfl ?_⟩
  -- the other station
  obtain ⟨q3, q4⟩ := write1 (σ := σ3) (u := 1) (by omega) hf3 (at_ := k) (by simpa using hk) b1
  rw [ptrE_some]
  refine ⟨by omega, by omega, by decide, ?_⟩
  rw [e2]
  have hwr2 := write_c hL3.sys hG3.small ((1 : Nat) : Int) nF (k : Int) (l := ⟨some ⟨r, 1, none⟩, 1, 1⟩) (bs := [b1]) (rdsl_one hr3 rfl (by omega)) fun b hb => by
    simp [blkOf] at hb; subst hb
    exact ⟨blk_lt hr3, hro⟩
  refine Calls.mono hwr2 ?_
  rintro e w4 ⟨rfl, hL4⟩
  rw [q4] at hL4
  rw [q3]
  obtain ⟨hp4, ho4⟩ := hL4.next hp3 ho3
  have hr4 := hL4.fr.blk hr3 hro
  have hpR4 : pageR σ3 1 nF (k / 32) k 1 (List.replicate 64 0) = fetchP (List.replicate 64 0) (k / 32) 32 Page.zero := by simp [pageR, hc31, AL.get]
  obtain ⟨hG4, hN4⟩ := hG3.setPage (u := 1) (by omega) (name := nF) (kk := k / 32) (by omega) hf3 (pg := wpg (pageR σ3 1 nF (k / 32) k 1 (List.replicate 64 0)) (k % 32) b1)
    (stepOk_write [b1] (at_ := k) (n := 1) (by simp; omega) () _ (k % 32) 0 (k / 32) (by omega) (by omega) (by omega) (hG3.pgOk (by omega) hf3 k 1)) hN3 (by omega)
  have hB := wpg_di (pageR σ3 1 nF (k / 32) k 1 (List.replicate 64 0)) (k % 32) b1 (fun j => by rw [hpR4]; rfl)
  have hBb : (wpg (pageR σ3 1 nF (k / 32) k 1 (List.replicate 64 0)) (k % 32) b1).b (k % 32) = b1 := by simp [wpg, upN]
  generalize wpg (pageR σ3 1 nF (k / 32) k 1 (List.replicate 64 0)) (k % 32) b1 = pB at hL4 hG4 hN4 hB hBb
  generalize hσ4 : σ3.setCache 1 (AL.put (σ3.caches 1) (nF, ((k / 32 : Nat) : Int)) pB) = σ4 at hL4 hG4 hN4
  have hf4 : AL.get σ4.files nF = some (List.replicate 64 0) := by rw [← hσ4]; exact hf3
  have hc40 : σ4.caches 0 = [((nF, ((i / 32 : Nat) : Int)), pA)] := by rw [← hσ4]; exact hc30
  have hc41 : σ4.caches 1 = [((nF, ((k / 32 : Nat) : Int)), pB)] := by rw [← hσ4]; simp [Sys.setCache, hc31, AL.put]
  refine ⟨0, rfl, Br.f rfl ?_⟩
  -- both flush
  have hfl1 := flush_c hL4.sys hG4 ((1 : Nat) : Int) nF
  refine Calls.mono hfl1 ?_
  rintro e w5 ⟨n5, rfl, hcase⟩
  have he4 : enterC ((1 : Nat) : Int) nF σ4 = 0 := enter_F (by omega) (by omega) hf4
  rcases hcase with ⟨hne, _⟩ | ⟨_, ps, hps, rfl, hL5⟩
  · exact absurd he4 hne
  rw [Int.toNat_natCast] at hps hL5
  rw [Int.toNat_natCast, flush1 hc41 (by omega) hps]
  rw [flush1 hc41 (by omega) hps] at hL5
  obtain ⟨hp5, ho5⟩ := hL5.next hp4 ho4
  have hr5 := hL5.fr.blk hr4 hro
  obtain ⟨wF, wN⟩ := wrF_one pB (k / 32) (k % 32) (List.replicate 64 0) hB 32 (by omega)
  rw [if_pos (by omega)] at wF wN
  rw [wN, he4]
  refine ⟨_, _, rfl, ?_⟩
  have hpB : pageOf σ4 1 (nF, ((k / 32 : Nat) : Int)) = pB := by simp [pageOf, hc41, AL.get]
  have hG5 := hG4.written (u := 1) (by omega) (name := nF) (kk := k / 32) (by rw [hc41]; simp)
  have hf5 : AL.get (writtenS σ4 1 nF (k / 32)).files nF = some ((List.replicate 64 0).set k b1) := by
    simp only [writtenS, Sys.setCache, AL.get_put, if_true, hpB, fileOf_eq hf4, wF, hBb]
    rw [show k / 32 * 32 + k % 32 = k by omega]
  have hc50 : (writtenS σ4 1 nF (k / 32)).caches 0 = [((nF, ((i / 32 : Nat) : Int)), pA)] := by simp only [writtenS, Sys.setCache]; exact hc40
  generalize writtenS σ4 1 nF (k / 32) = σ5 at hL5 hG5 hf5 hc50
  have hfl0 := flush_c hL5.sys hG5 ((0 : Nat) : Int) nF
  refine Calls.mono hfl0 ?_
  rintro e w6 ⟨n6, rfl, hcase⟩
  have he5 : enterC ((0 : Nat) : Int) nF σ5 = 0 := enter_F (by omega) (by omega) hf5
  rcases hcase with ⟨hne, _⟩ | ⟨_, ps6, hps6, rfl, hL6⟩
  · exact absurd he5 hne
  rw [Int.toNat_natCast] at hps6 hL6
  rw [Int.toNat_natCast, flush1 hc50 (by omega) hps6]
  rw [flush1 hc50 (by omega) hps6] at hL6
  obtain ⟨hp6, ho6⟩ := hL6.next hp5 ho5
  have hr6 := hL6.fr.blk hr5 hro
  obtain ⟨wF6, wN6⟩ := wrF_one pA (i / 32) (i % 32) ((List.replicate 64 0).set k b1) hA 32 (by omega)
  rw [if_pos (by omega)] at wF6 wN6
  rw [wN6, he5]
  refine ⟨_, _, rfl, ?_⟩
  have hpA : pageOf σ5 0 (nF, ((i / 32 : Nat) : Int)) = pA := by simp [pageOf, hc50, AL.get]
  have hG6 := hG5.written (u := 0) (by omega) (name := nF) (kk := i / 32) (by rw [hc50]; simp)
  have hf6 : AL.get (writtenS σ5 0 nF (i / 32)).files nF = some (((List.replicate 64 0).set k b1).set i b0) := by
    simp only [writtenS, Sys.setCache, AL.get_put, if_true, hpA, fileOf_eq hf5, wF6, hAb]
    rw [show i / 32 * 32 + i % 32 = i by omega]
  generalize writtenS σ5 0 nF (i / 32) = σ6 at hL6 hG6 hf6
  -- the disk
  refine Calls.mono (disk_c hL6.sys hG6.small nF) ?_
  rintro e w7 ⟨l, rfl, hL7, hr7, hb7⟩
  obtain ⟨hp7, ho7⟩ := hL7.next hp6 ho6
  have hrr := hL7.fr.blk hr6 hro
  have hdc : diskC nF σ6 = 0 := enter_F (by omega) (by omega) hf6
  rw [hdc] at hr7
  simp only [if_true, fileOf_eq hf6] at hr7
  rw [hdc]
  refine ⟨l, 0, rfl, ?_⟩
  have hll : l.len = 64 := by rw [u8V_map_len _ hr7]; simp
  refine dwE_intro fun w8 hp8 hh8 => ?_
  have hr8 := hr7.pu hp8
  have hrr8 := hp8.blk hrr
  have ci : ((((List.replicate 64 0).set k b1).set i b0).map u8V)[i]? = some (u8V b0) := by simp [hi]
  have ck : ((((List.replicate 64 0).set k b1).set i b0).map u8V)[k]? = some (u8V b1) := by
    rw [List.getElem?_map, List.getElem?_set_ne hik]; simp [hk]
  obtain ⟨a, ha, hca, _⟩ := hr8.cell ci
  obtain ⟨a', ha', hca', _⟩ := hr8.cell ck
  refine Br.t rfl (Br.t rfl (Br.t rfl (Br.t rfl (Br.t rfl (Br.t (by rw [hll]; rfl) ⟨a, ha, by omega, by omega, _, by rw [Int.toNat_natCast, Nat.mul_one]; exact hca, ?_⟩)))))
  rw [ptrE_some]
  refine ⟨by omega, by omega, _, by rw [add_def, cell_blk hrr8]; rfl, Br.t (by simp) ⟨a', ha', by omega, by omega, _, by rw [Int.toNat_natCast, Nat.mul_one]; exact hca', ?_⟩⟩
  rw [ptrE_some]
  refine ⟨by omega, by omega, _, by rw [add_def, cell_blk hrr8]; rfl, Br.t (by simp) ?_⟩
  refine Calls.mono (known_c w8) ?_
  rintro e w9 ⟨rfl, hp9⟩
  exact ⟨true, rfl, rfl, (hp7.trans hp8).trans hp9⟩

theorem bytes_c (w : World) (n0 n1 : Int) (b0 b1 : UInt8) :
    Calls Try.prog 3 #[.int .i64 n0, .int .i64 n1, .agg #[u8V b0, u8V b1]] w fun e w' => e = .returned (.bool true) ∧ Pu w w' := by
  refine F3_calls n0 n1 _ _ w _ ?_
  refine alE_intro fun w1 hw1 => ?_
  have hp1 : Pu w w1 := by rw [hw1]; exact Pu.alloc w _
  have hb1 : w1.heap[w.heap.size]? = some (.cells #[u8V b0, u8V b1] 22) := by rw [hw1]; exact alloc_new w _
  refine Calls.mono (new_c w1) ?_
  rintro e w2 ⟨rfl, h2, hp2⟩
  have ho2 : ∀ b ∈ (newLay w1.heap.size).own, w1.heap.size ≤ b := fun b hb => by
    simp [newLay, Lay.own, blkOf] at hb; omega
  generalize newLay w1.heap.size = d at h2 ho2 ⊢
  refine ⟨some ⟨d.S, 0, none⟩, rfl, false, w2, eqS_ptr_nil u23 _ _ _ w2, ?_⟩
  obtain ⟨m1, m2⟩ := make_new
  refine Calls.mono (make_c h2 nF) ?_
  rintro e w3 ⟨rfl, d3, hL3⟩
  rw [m2] at hL3
  rw [m1]
  obtain ⟨hp3, ho3⟩ := hL3.next (w0 := w1) hp2 ho2
  refine ⟨0, rfl, Br.f rfl ?_⟩
  obtain ⟨r1, r2⟩ := resize_base (n := 64) (by omega)
  show Calls Try.prog 7 #[d.ptr, .string nF, .int .i64 ((64 : Nat) : Int)] w3 _
  rw [hL3.ptrEq]
  refine Calls.mono (resize_c hL3.sys (good_base (by omega)).small (good_base (by omega)).near nF ((64 : Nat) : Int)) ?_
  rintro e w4 ⟨rfl, d4, hL4⟩
  rw [r2] at hL4
  rw [r1]
  obtain ⟨hp4, ho4⟩ := hL4.next hp3 ho3
  refine ⟨0, rfl, Br.f rfl ?_⟩
  have hS : d.S = d4.S := by rw [hL4.ptr, hL3.ptr]
  have hs1 : w1.heap.size = w.heap.size + 1 := by rw [hw1]; simp
  have hb4 := hp4.blk hb1
  have hro : w.heap.size ∉ d4.own := fun h => by have := ho4 _ h; omega
  have fin : ∀ i k : Nat, i < 64 → k < 64 → i ≠ k → F3_3 (fun e w' => e = .returned (.bool true) ∧ Pu w w') (i : Int) (k : Int) (some ⟨w.heap.size, 0, none⟩) (some ⟨d.S, 0, none⟩) [] w4 := fun i k hi hk hik => by
    rw [hS]
    exact bytes_rest hL4.sys (hp1.trans hp4) (fun b hb => by have := ho4 b hb; omega) hb4 hro hi hk hik
  obtain ⟨i, hi, ei⟩ := mod64 n0
  obtain ⟨k, hk, ek⟩ := mod64 n1
  rw [ei, ek]
  refine ⟨rfl, by decide, rfl, by decide, rfl, by decide, rfl, by decide, Br.of (fun h => ?_) (fun h => ?_)⟩
  · have h : i = k := by have : (i : Int) = (k : Int) := by simpa using h
                         omega
    subst h
    refine ⟨rfl, by decide, ?_⟩
    have e3 : (IntKind.i64.wrap ((i : Int) + 1)).tmod 64 = (((i + 1) % 64 : Nat) : Int) := by
      rw [wrap_in (by omega) (by omega), Int.tmod_eq_emod_of_nonneg (by omega)]; omega
    rw [e3]
    exact fin i ((i + 1) % 64) hi (by omega) (by omega)
  · have h : i ≠ k := fun e => by subst e; simp at h
    exact fin i k hi hk h
end Go.Proofs.Ytnigfiljenfgjaa
