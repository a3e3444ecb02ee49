import Derived.Test.YtcnenlmhbpijlaaLkI
import Derived.Test.YtcnenlmhbpijlaaSkMax
/- Link: the sizes of overlays; the example; how much is asked of. No condition but the reach's. -/
set_option maxRecDepth 100000
set_option linter.unusedVariables false
set_option linter.unusedSimpArgs false
namespace Go.Proofs.Ytcnenlmhbpijlaa
open Go.Sh Go.RowKit

def szOf (l : List Mod) (i : Nat) : Int := (l.map fun m => if m.ov = (i : Int) then m.sizes.sum else 0).sum
theorem szOf_take {l : List Mod} {k : Nat} {m : Mod} (h : l[k]? = some m) (i : Nat) : szOf (l.take (k + 1)) i = szOf (l.take k) i + (if m.ov = (i : Int) then m.sizes.sum else 0) := by rw [take_at h]; simp [szOf]
theorem sum_bounds {z : List Int} (h : ∀ x ∈ z, 1 ≤ x ∧ x ≤ 10000) : 0 ≤ z.sum ∧ z.sum ≤ 10000 * z.length := by
  induction z with
  | nil => simp
  | cons x r ih =>
    have h1 := ih fun y hy => h y (List.mem_cons_of_mem _ hy)
    have h2 := h x List.mem_cons_self
    simp only [List.sum_cons, List.length_cons]
    omega
theorem sum_take {z : List Int} {k : Nat} {x : Int} (h : z[k]? = some x) : (z.take (k + 1)).sum = (z.take k).sum + x := by rw [take_at h]; simp
theorem sum_c (w : World) (s : SV) (z : List Int) (hz : RdSl w s z) (h : ∀ x ∈ z, 1 ≤ x ∧ x ≤ 10000) : Calls Try.prog 98 #[.slice s.a s.len s.cap] w fun e w' => e = .returned (.int .i64 z.sum) ∧ w' = w := by
  refine F98_calls s w _ ?_
  have hlen := hz.len
  have hlim := hz.lim
  refine loopUp z.length (fun k t w' => w' = w ∧ t.2 = (k : Int) ∧ t.1 = (z.take k).sum) ⟨rfl, rfl, rfl⟩ ?_
  rintro k J ⟨n3, t⟩ w' hk ⟨rfl, ht, hn⟩ hJ
  obtain rfl : t = (k : Int) := ht
  have hn : n3 = (z.take k).sum := hn
  refine Br.of (fun hlt => ?_) (fun hge => ?_)
  · have hlt' : k < z.length := by have := dtrue hlt; omega
    obtain ⟨x, hx⟩ := at_k hlt'
    obtain ⟨a, ha, hi, hc, _⟩ := hz.int hx
    have hb := sum_bounds (z := z.take k) fun y hy => h y (List.mem_of_mem_take hy)
    have hx1 := h x (List.mem_of_getElem? hx)
    have htk : (z.take k).length ≤ z.length := by simp; omega
    refine ⟨a, ha, by omega, by omega, x, by simpa using hc, ?_⟩
    show J _ _
    rw [wrap_in (n := (k : Int) + 1) (by omega) (by omega)]
    refine hJ _ _ hlt' ⟨rfl, rfl, ?_⟩
    show IntKind.i64.wrap (n3 + x) = _
    rw [hn, wrap_in (by omega) (by omega), sum_take hx]
  · have hge' : ¬ k < z.length := by have := dfalse hge; omega
    rw [take_end hk hge'] at hn
    exact ⟨by rw [hn], rfl⟩

theorem right_size {m : Mod} (h : rightB m = true) : (0 ≤ m.ov ∧ m.ov ≤ 15) ∧ ∀ x ∈ m.sizes, 1 ≤ x ∧ x ≤ 10000 := by
  simp only [rightB, Bool.and_eq_true, decide_eq_true_eq, List.all_eq_true, sizeOk] at h
  exact ⟨⟨h.1.1.1.1.2, h.1.1.1.2⟩, h.1.2⟩
theorem szOf_bounds {l : List Mod} (h : ∀ m ∈ l, rightB m = true ∧ m.sizes.length = m.procs.length) (i : Nat) : 0 ≤ szOf l i ∧ szOf l i ≤ 10000 * (nprocs l : Int) := by
  induction l with
  | nil => simp [szOf, nprocs]
  | cons m r ih =>
    have h1 := ih fun x hx => h x (List.mem_cons_of_mem _ hx)
    obtain ⟨h2, h3⟩ := h m List.mem_cons_self
    have h4 := sum_bounds (right_size h2).2
    simp only [szOf, nprocs, List.map_cons, List.sum_cons] at h1 ⊢
    rw [h3] at h4
    split <;> simp <;> omega

abbrev endV (f : Nat → Int) : List Value := (List.range 16).map fun i => Value.int .i64 (f i)
theorem endV_set (f g : Nat → Int) (v : Nat) (hv : v < 16) (h : ∀ i, i ≠ v → g i = f i) : (endV f).toArray.setIfInBounds v (.int .i64 (g v)) = (endV g).toArray := by
  apply Array.ext_getElem?
  intro i
  rw [Array.getElem?_setIfInBounds]
  by_cases hi : v = i
  · subst hi
    simp [endV, hv]
  · rw [if_neg hi]
    simp only [endV, List.getElem?_toArray, List.getElem?_map]
    by_cases h16 : i < 16
    · rw [List.getElem?_range h16]
      simp [h i (fun e => hi e.symm)]
    · rw [List.getElem?_eq_none (by simp; omega)]; rfl
theorem endV_at (f : Nat → Int) {i : Nat} (h : i < 16) : (endV f).toArray[i]? = some (.int .i64 (f i)) := by
  simp [endV, h]

set_option maxHeartbeats 1000000 in
theorem ends_c (w : World) (s : SV) (l : List Mod) (hl : RdSl w s l) (hF : Fits l) : Calls Try.prog 56 #[.slice s.a s.len s.cap] w fun e w' => e = .returned (.agg (endV (szOf l)).toArray) ∧ Pu w w' := by
  refine F56_calls s w _ ?_
  refine alE_intro fun w1 hw1 => alE_intro fun w2 hw2 => ?_
  have hp1 : Pu w w1 := by rw [hw1]; exact Pu.alloc w _
  have hp2 : Pu w1 w2 := by rw [hw2]; exact Pu.alloc w1 _
  have hb1 : w2.heap[w.heap.size]? = some (.cells (endV fun _ => 0).toArray 77) := hp2.blk (by rw [hw1]; exact alloc_new w _)
  have hb2 : w2.heap[w1.heap.size]? = some (.cells (endV fun _ => 0).toArray 77) := by rw [hw2]; exact alloc_new w1 _
  have hs1 : w1.heap.size = w.heap.size + 1 := by rw [hw1]; simp
  have hlen := hl.len
  have hl32 := hF.len
  refine loopUp l.length (fun k t w' => Pu w w' ∧ t = (k : Int) ∧ w'.heap[w.heap.size]? = some (.cells (endV fun _ => 0).toArray 77) ∧ w'.heap[w1.heap.size]? = some (.cells (endV (szOf (l.take k))).toArray 77)) ⟨hp1.trans hp2, rfl, hb1, hb2⟩ ?_
  rintro k J t w3 hk ⟨hp3, rfl, hb3, hb3'⟩ hJ
  refine Br.of (fun hlt => ?_) (fun hge => ?_)
  · have hlt' : k < l.length := by have := dtrue hlt; omega
    obtain ⟨m, hm⟩ := at_k hlt'
    have hmem := List.mem_of_getElem? hm
    obtain ⟨a, p, z, c, ha, hi, hM, c0, c1, c2, c3, c4⟩ := modAt hl hm
    refine ⟨a, ha, by omega, by omega, m.name, by simpa using hp3.cell c0, m.ov, by simpa using hp3.cell c1, p, by simpa using hp3.cell c2, z, by simpa using hp3.cell c3, c, by simpa using hp3.cell c4, ?_⟩
    refine boxA (by rfl) (by kernel_rfl) (by rfl) fun w4 hp4 hs4 hb4 => ?_
    refine dwE_intro fun w5 hp5 hh5 => ?_
    have hb5 := hp5.blk hb4
    have hb5' := hp5.blk (hp4.blk hb3')
    have hb5'' := hp5.blk (hp4.blk hb3)
    obtain ⟨hov, hsz⟩ := right_size (hF.right m hmem)
    obtain ⟨v, hv⟩ : ∃ v : Nat, m.ov = (v : Int) := ⟨m.ov.toNat, by omega⟩
    have hv16 : v < 16 := by omega
    refine ⟨fun x => x.heap[w3.heap.size]? = some (.cells #[.string m.name, .int .i64 m.ov, .slice p.a p.len p.cap, .slice z.a z.len z.cap, .slice c.a c.len c.cap] 33) ∧ x.heap[w1.heap.size]? = some (.cells (endV (szOf (l.take k))).toArray 77), ⟨hb5, hb5'⟩, m.ov, fun x hx => by rw [add_def, cell_blk hx.1]; rfl, by omega, by omega, szOf (l.take k) v, fun x hx => ?_, z, fun x hx => by rw [add_def, cell_blk hx.1]; rfl, ?_⟩
    · rw [hv, Int.toNat_natCast, Nat.mul_one, add_def, Nat.zero_add, cell_blk hx.2]
      exact endV_at _ hv16
    refine Calls.mono (sum_c w5 z m.sizes (hM.sizes.pu ((hp3.trans hp4).trans hp5)) hsz) ?_
    rintro e w6 ⟨rfl, rfl⟩
    refine ⟨_, rfl, ⟨hb5, hb5'⟩, by omega, by omega, ?_⟩
    rw [hv, Int.toNat_natCast, Nat.mul_one, add_def, Nat.zero_add]
    have hsb := szOf_bounds (l := l.take k) (fun m hm => ⟨hF.right m (List.mem_of_mem_take hm), hF.sizes m (List.mem_of_mem_take hm)⟩) v
    have hsm := sum_bounds hsz
    have hnp := nprocs_le (l := l) (k := k)
    have hn100 := hF.procs
    have hml := hF.sizes m hmem
    have hpl := procs_le hmem
    refine st1_intro hb5' (by simp [endV]; exact hv16) fun w7 hw7 hb7 => ?_
    rw [wrap_in (n := (k : Int) + 1) (by omega) (by omega)]
    have hf7 : Fr (· = w1.heap.size) w6 w7 := by rw [hw7]; exact Fr.cell w6 _ _ _
    refine hJ _ _ hlt' ⟨Pu.andNew ((hp3.trans hp4).trans hp5) hf7 fun i hi => by omega, rfl, hf7.blk hb5'' (by omega), ?_⟩
    rw [hb7, wrap_in (by omega) (by omega)]
    congr 2
    have hg : szOf (l.take (k + 1)) v = szOf (l.take k) v + m.sizes.sum := by rw [szOf_take hm, if_pos hv]
    rw [← hg]
    exact endV_set _ _ v hv16 fun i hi => by rw [szOf_take hm, if_neg (by omega)]; simp
  · have hge' : ¬ k < l.length := by have := dfalse hge; omega
    rw [take_end hk hge'] at hb3'
    refine ⟨_, by rw [add_def, cell_blk hb3']; rfl, _, by rw [add_def, cell_blk hb3']; rfl, _, by rw [add_def, cell_blk hb3']; rfl, _, by rw [add_def, cell_blk hb3']; rfl, _, by rw [add_def, cell_blk hb3']; rfl, _, by rw [add_def, cell_blk hb3']; rfl, _, by rw [add_def, cell_blk hb3']; rfl, _, by rw [add_def, cell_blk hb3']; rfl,
      _, by rw [add_def, cell_blk hb3']; rfl, _, by rw [add_def, cell_blk hb3']; rfl, _, by rw [add_def, cell_blk hb3']; rfl, _, by rw [add_def, cell_blk hb3']; rfl, _, by rw [add_def, cell_blk hb3']; rfl, _, by rw [add_def, cell_blk hb3']; rfl, _, by rw [add_def, cell_blk hb3']; rfl, _, by rw [add_def, cell_blk hb3']; rfl, ?_⟩
    refine stA_fill hb3 (by kernel_rfl) (by rfl) (by rfl) fun w4 hb4 hf4 hs4 => ?_
    refine ⟨_, by rw [add_def, cell_blk hb4]; rfl, _, by rw [add_def, cell_blk hb4]; rfl, _, by rw [add_def, cell_blk hb4]; rfl, _, by rw [add_def, cell_blk hb4]; rfl, _, by rw [add_def, cell_blk hb4]; rfl, _, by rw [add_def, cell_blk hb4]; rfl, _, by rw [add_def, cell_blk hb4]; rfl, _, by rw [add_def, cell_blk hb4]; rfl,
      _, by rw [add_def, cell_blk hb4]; rfl, _, by rw [add_def, cell_blk hb4]; rfl, _, by rw [add_def, cell_blk hb4]; rfl, _, by rw [add_def, cell_blk hb4]; rfl, _, by rw [add_def, cell_blk hb4]; rfl, _, by rw [add_def, cell_blk hb4]; rfl, _, by rw [add_def, cell_blk hb4]; rfl, _, by rw [add_def, cell_blk hb4]; rfl, ?_⟩
    exact ⟨rfl, Pu.andNew hp3 hf4 fun i hi => by omega⟩
end Go.Proofs.Ytcnenlmhbpijlaa
