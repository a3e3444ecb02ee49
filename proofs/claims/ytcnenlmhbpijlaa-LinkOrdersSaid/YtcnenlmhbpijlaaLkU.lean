import Derived.Test.YtcnenlmhbpijlaaLkT
import Derived.Test.YtcnenlmhbpijlaaLkFfits
import Derived.Test.YtcnenlmhbpijlaaShThirteen
/- Link: the law LinkFits, walked. No condition but the reach's. -/
set_option maxRecDepth 100000
set_option linter.unusedVariables false
set_option linter.unusedSimpArgs false
namespace Go.Proofs.Ytcnenlmhbpijlaa
open Go.Sh Go.RowKit

/-! ### Lists that are the same -/
theorem sameTexts_c (w : World) (s t : SV) (l : List ByteArray) (hs : RdSl w s l) (ht : RdSl w t l) : Calls Try.prog 25 #[.slice s.a s.len s.cap, .slice t.a t.len t.cap] w fun e w' => e = .returned (.bool true) ∧ Pu w w' := by
  refine F25_calls s t w _ ?_
  have h1 := hs.len
  have h2 := ht.len
  have hlim := hs.lim
  refine Br.f (by rw [h1, h2]; simp) ?_
  refine loopUp l.length (fun k t w' => Pu w w' ∧ t = (k : Int)) ⟨Pu.refl _, rfl⟩ ?_
  rintro k J t' w1 hk ⟨hp1, rfl⟩ hJ
  refine Br.of (fun hlt => ?_) (fun hge => ⟨rfl, hp1⟩)
  have hlt' : k < l.length := by have := dtrue hlt; omega
  obtain ⟨x, hx⟩ := at_k hlt'
  refine dwE_intro fun w2 hp2 hh2 => ?_
  obtain ⟨a, ha, hi, hc⟩ := (hs.pu (hp1.trans hp2)).str hx
  obtain ⟨b, hb, hj, hd⟩ := (ht.pu (hp1.trans hp2)).str hx
  refine ⟨a, ha, by omega, by omega, x, by simpa using hc, b, hb, by omega, by omega, x, by simpa using hd, Br.f (by simp) ?_⟩
  rw [wrap_in (by omega) (by omega)]
  exact hJ _ _ hlt' ⟨hp1.trans hp2, rfl⟩
theorem sameInts_c (w : World) (s t : SV) (l : List Int) (hs : RdSl w s l) (ht : RdSl w t l) : Calls Try.prog 28 #[.slice s.a s.len s.cap, .slice t.a t.len t.cap] w fun e w' => e = .returned (.bool true) ∧ Pu w w' := by
  refine F28_calls s t w _ ?_
  have h1 := hs.len
  have h2 := ht.len
  have hlim := hs.lim
  refine Br.f (by rw [h1, h2]; simp) ?_
  refine loopUp l.length (fun k t w' => Pu w w' ∧ t = (k : Int)) ⟨Pu.refl _, rfl⟩ ?_
  rintro k J t' w1 hk ⟨hp1, rfl⟩ hJ
  refine Br.of (fun hlt => ?_) (fun hge => ⟨rfl, hp1⟩)
  have hlt' : k < l.length := by have := dtrue hlt; omega
  obtain ⟨x, hx⟩ := at_k hlt'
  refine dwE_intro fun w2 hp2 hh2 => ?_
  obtain ⟨a, ha, hi, hc, _⟩ := (hs.pu (hp1.trans hp2)).int hx
  obtain ⟨b, hb, hj, hd, _⟩ := (ht.pu (hp1.trans hp2)).int hx
  refine ⟨a, ha, by omega, by omega, x, by simpa using hc, b, hb, by omega, by omega, x, by simpa using hd, Br.f (by simp) ?_⟩
  rw [wrap_in (by omega) (by omega)]
  exact hJ _ _ hlt' ⟨hp1.trans hp2, rfl⟩

/-! ### Missing -/
def missingS (l : List Mod) : List ByteArray × Int := if validS l = 0 then (missS (PL l), 0) else ([], validS l)
theorem missS_len {l : List Mod} (hF : Fits l) : (missS (PL l)).length ≤ 10000 := by
  have h1 := cptFrom_len (srt (missL (PL l))) none
  rw [srt_length] at h1
  have h2 := missL_len (D := PL l) (fun q hq => by
    obtain ⟨m, hm, _, _, hc⟩ := PL_mem hq
    exact hF.calls m hm _ hc)
  have h3 := PL_len hF.callsL
  have h4 := hF.procs
  unfold missS setS cpt
  omega
theorem missing2_c (w : World) (s : SV) (l : List Mod) (hl : RdSl w s l) (hL : Lim.ok l) : Calls Try.prog 20 #[.slice s.a s.len s.cap] w fun e w' => ∃ t : SV, e = .returned (.tuple #[.slice t.a t.len t.cap, .int .i64 (missingS l).2]) ∧ RdSl w' t (missingS l).1 ∧ Pu w w' := by
  refine F20_calls s w _ ?_
  refine Calls.mono (validate_c w s l hl hL) ?_
  rintro e w1 ⟨rfl, hp1⟩
  refine ⟨_, rfl, Br.of (fun h1 => ?_) (fun h1 => ?_)⟩
  · have h1 : validS l ≠ 0 := by simpa using h1
    exact ⟨⟨none, 0, 0⟩, by rw [missingS, if_neg h1], by rw [missingS, if_neg h1]; exact RdSl.nil w1 none 0, hp1⟩
  have h1 : validS l = 0 := by simpa using h1
  have hF := fits_of h1
  refine Calls.mono (procs_c w1 s l (hl.pu hp1) hF) ?_
  rintro e w2 ⟨b, L, rfl, hb, hM, hR, hp2⟩
  refine ⟨_, rfl, ?_⟩
  refine Calls.mono (missing_c w2 b L (PL l) hM hR (by rw [PL_len hF.callsL]; exact hF.procs) fun q hq => by
    obtain ⟨m, hm, _, _, hc⟩ := PL_mem hq
    exact hF.calls m hm _ hc) ?_
  rintro e w3 ⟨t, rfl, ht, hrow, _, hp3⟩
  have := missS_len hF
  exact ⟨t, rfl, t, by rw [missingS, if_pos h1], by rw [missingS, if_pos h1]; exact rd_of_row hrow (by show (missS (PL l)).length ≤ _; omega), (hp1.trans hp2).trans hp3⟩
theorem rMissing2_c (w : World) (s : SV) (l : List Mod) (hl : RdSl w s l) : Calls Try.prog 21 #[.slice s.a s.len s.cap] w fun e w' => ∃ t : SV, e = .returned (.tuple #[.slice t.a t.len t.cap, .int .i64 (missingS l).2]) ∧ RdSl w' t (missingS l).1 ∧ Pu w w' := by
  refine F21_calls s w _ ?_
  refine Calls.mono (rValidate_c w s l hl) ?_
  rintro e w1 ⟨rfl, hp1⟩
  refine ⟨_, rfl, Br.of (fun h1 => ?_) (fun h1 => ?_)⟩
  · have h1 : validS l ≠ 0 := by simpa using h1
    exact ⟨⟨none, 0, 0⟩, by rw [missingS, if_neg h1], by rw [missingS, if_neg h1]; exact RdSl.nil w1 none 0, hp1⟩
  have h1 : validS l = 0 := by simpa using h1
  have hF := fits_of h1
  refine Calls.mono (rMissing_c w1 s l (hl.pu hp1) hF) ?_
  rintro e w2 ⟨t, rfl, ht, hrow, _, hp2⟩
  have := missS_len hF
  exact ⟨t, rfl, t, by rw [missingS, if_pos h1], by rw [missingS, if_pos h1]; exact rd_of_row hrow (by show (missS (PL l)).length ≤ _; omega), hp1.trans hp2⟩

/-! ### Sizes -/
def szR (R : List RP) (i : Nat) : Int := (R.map fun r => if r.ov = (i : Int) then r.size else 0).sum
theorem szR_take {R : List RP} {k : Nat} {r : RP} (h : R[k]? = some r) (i : Nat) : szR (R.take (k + 1)) i = szR (R.take k) i + (if r.ov = (i : Int) then r.size else 0) := by rw [take_at h]; simp [szR]
theorem rp_sizes : ∀ {a : List ByteArray} {b : List Int} {c : List (List ByteArray)}, b.length = a.length → c.length = a.length → (((a.zip b).zip c).map fun q => q.1.2) = b
  | [], [], _, _, _ => by simp
  | [], _ :: _, _, h, _ => by simp at h
  | x :: a, [], _, h, _ => by simp at h
  | x :: a, y :: b, [], _, h => by simp at h
  | x :: a, y :: b, z :: c, h, k => by
    simp only [List.zip_cons_cons, List.map_cons]
    rw [rp_sizes (by simpa using h) (by simpa using k)]
theorem szR_mod {m : Mod} (h1 : m.sizes.length = m.procs.length) (h2 : m.calls.length = m.procs.length) (i : Nat) : szR (rpOf m) i = if m.ov = (i : Int) then m.sizes.sum else 0 := by
  unfold szR rpOf
  rw [List.map_map]
  split
  · rename_i h
    rw [show ((fun r : RP => if r.ov = (i : Int) then r.size else 0) ∘ fun q : (ByteArray × Int) × List ByteArray => (⟨q.1.1, m.ov, q.1.2, q.2⟩ : RP)) = fun q => q.1.2 from funext fun q => if_pos h, rp_sizes h1 h2]
  · rename_i h
    rw [show ((fun r : RP => if r.ov = (i : Int) then r.size else 0) ∘ fun q : (ByteArray × Int) × List ByteArray => (⟨q.1.1, m.ov, q.1.2, q.2⟩ : RP)) = fun q => (0 : Int) from funext fun q => if_neg h]
    generalize (m.procs.zip m.sizes).zip m.calls = L
    induction L with
    | nil => rfl
    | cons x r ih => simp [ih]
theorem szR_all {l : List Mod} (h : ∀ m ∈ l, m.sizes.length = m.procs.length ∧ m.calls.length = m.procs.length) (i : Nat) : szR (RL l) i = szOf l i := by
  induction l with
  | nil => rfl
  | cons m r ih =>
    have h1 := h m List.mem_cons_self
    have h2 := szR_mod h1.1 h1.2 i
    have h3 := ih fun x hx => h x (List.mem_cons_of_mem _ hx)
    simp only [szR, szOf, RL, List.flatMap_cons, List.map_append, List.sum_append, List.map_cons, List.sum_cons] at h2 h3 ⊢
    rw [h2, h3]
theorem RL_mem {l : List Mod} (hF : Fits l) {r : RP} (h : r ∈ RL l) : (0 ≤ r.ov ∧ r.ov ≤ 15) ∧ 1 ≤ r.size ∧ r.size ≤ 10000 := by
  simp only [RL, List.mem_flatMap, rpOf, List.mem_map] at h
  obtain ⟨m, hm, q, hq, rfl⟩ := h
  obtain ⟨h1, h2⟩ := right_size (hF.right m hm)
  exact ⟨h1, h2 _ (List.of_mem_zip (List.of_mem_zip hq).1).2⟩
theorem szR_bounds {R : List RP} (h : ∀ r ∈ R, 1 ≤ r.size ∧ r.size ≤ 10000) (i : Nat) : 0 ≤ szR R i ∧ szR R i ≤ 10000 * (R.length : Int) := by
  induction R with
  | nil => simp [szR]
  | cons r R ih =>
    have h1 := ih fun x hx => h x (List.mem_cons_of_mem _ hx)
    have h2 := h r List.mem_cons_self
    simp only [szR, List.map_cons, List.sum_cons, List.length_cons] at h1 ⊢
    split <;> omega

set_option maxHeartbeats 1000000 in
theorem rSizesOf_c (w : World) (s : SV) (R : List RP) (hR : RdSl w s R) (hb : ∀ r ∈ R, (0 ≤ r.ov ∧ r.ov ≤ 15) ∧ 1 ≤ r.size ∧ r.size ≤ 10000) (hl : R.length ≤ 100) : Calls Try.prog 58 #[.slice s.a s.len s.cap] w fun e w' => e = .returned (.agg (endV (szR R)).toArray) ∧ Pu w w' := by
  refine F58_calls s w _ ?_
  refine alE_intro fun w1 hw1 => alE_intro fun w2 hw2 => ?_
  have hp1 : Pu w w1 := by rw [hw1]; exact Pu.alloc w _
  have hp2 : Pu w1 w2 := by rw [hw2]; exact Pu.alloc w1 _
  have hb1 : w2.heap[w.heap.size]? = some (.cells (endV fun _ => 0).toArray 77) := hp2.blk (by rw [hw1]; exact alloc_new w _)
  have hb2 : w2.heap[w1.heap.size]? = some (.cells (endV fun _ => 0).toArray 77) := by rw [hw2]; exact alloc_new w1 _
  have hs1 : w1.heap.size = w.heap.size + 1 := by rw [hw1]; simp
  have hlen := hR.len
  refine loopUp R.length (fun k t w' => Pu w w' ∧ t = (k : Int) ∧ w'.heap[w.heap.size]? = some (.cells (endV fun _ => 0).toArray 77) ∧ w'.heap[w1.heap.size]? = some (.cells (endV (szR (R.take k))).toArray 77)) ⟨hp1.trans hp2, rfl, hb1, hb2⟩ ?_
  rintro k J t w3 hk ⟨hp3, rfl, hb3, hb3'⟩ hJ
  refine Br.of (fun hlt => ?_) (fun hge => ?_)
  · have hlt' : k < R.length := by have := dtrue hlt; omega
    obtain ⟨r, hr⟩ := at_k hlt'
    have hmem := List.mem_of_getElem? hr
    refine dwE_intro fun w5 hp5 hh5 => ?_
    obtain ⟨a, t, ha, hi, ht, c0, c1, c2, c3⟩ := rpAt (hR.pu (hp3.trans hp5)) hr
    have hb5' := hp5.blk hb3'
    have hb5'' := hp5.blk hb3
    obtain ⟨hov, hsz⟩ := hb r hmem
    obtain ⟨v, hv⟩ : ∃ v : Nat, r.ov = (v : Int) := ⟨r.ov.toNat, by omega⟩
    have hv16 : v < 16 := by omega
    refine ⟨a, ha, by omega, by omega, r.ov, by simpa using c1, by omega, by omega, szR (R.take k) v, ?_, a, ha, by omega, by omega, r.size, by simpa using c2, by omega, by omega, ?_⟩
    · rw [hv, Int.toNat_natCast, Nat.mul_one, add_def, Nat.zero_add, cell_blk hb5']
      exact endV_at _ hv16
    rw [hv, Int.toNat_natCast, Nat.mul_one, add_def, Nat.zero_add]
    have hsb := szR_bounds (R := R.take k) (fun r hr => (hb r (List.mem_of_mem_take hr)).2) v
    have htl : (R.take k).length ≤ 100 := by simp; omega
    refine st1_intro hb5' (by simp [endV]; exact hv16) fun w7 hw7 hb7 => ?_
    rw [wrap_in (n := (k : Int) + 1) (by omega) (by omega)]
    have hf7 : Fr (· = w1.heap.size) w5 w7 := by rw [hw7]; exact Fr.cell w5 _ _ _
    refine hJ _ _ hlt' ⟨Pu.andNew (hp3.trans hp5) hf7 fun i hi => by omega, rfl, hf7.blk hb5'' (by omega), ?_⟩
    rw [hb7, wrap_in (by omega) (by omega)]
    congr 2
    have hg : szR (R.take (k + 1)) v = szR (R.take k) v + r.size := by rw [szR_take hr, if_pos hv]
    rw [← hg]
    exact endV_set _ _ v hv16 fun i hi => by rw [szR_take hr, if_neg (by omega)]; simp
  · have hge' : ¬ k < R.length := by have := dfalse hge; omega
    rw [take_end hk hge'] at hb3'
    refine ⟨_, by rw [add_def, cell_blk hb3']; rfl, _, by rw [add_def, cell_blk hb3']; rfl, _, by rw [add_def, cell_blk hb3']; rfl, _, by rw [add_def, cell_blk hb3']; rfl, _, by rw [add_def, cell_blk hb3']; rfl, _, by rw [add_def, cell_blk hb3']; rfl, _, by rw [add_def, cell_blk hb3']; rfl, _, by rw [add_def, cell_blk hb3']; rfl,
      _, by rw [add_def, cell_blk hb3']; rfl, _, by rw [add_def, cell_blk hb3']; rfl, _, by rw [add_def, cell_blk hb3']; rfl, _, by rw [add_def, cell_blk hb3']; rfl, _, by rw [add_def, cell_blk hb3']; rfl, _, by rw [add_def, cell_blk hb3']; rfl, _, by rw [add_def, cell_blk hb3']; rfl, _, by rw [add_def, cell_blk hb3']; rfl, ?_⟩
    refine stA_fill hb3 (by kernel_rfl) (by rfl) (by rfl) fun w4 hb4 hf4 hs4 => ?_
    refine ⟨_, by rw [add_def, cell_blk hb4]; rfl, _, by rw [add_def, cell_blk hb4]; rfl, _, by rw [add_def, cell_blk hb4]; rfl, _, by rw [add_def, cell_blk hb4]; rfl, _, by rw [add_def, cell_blk hb4]; rfl, _, by rw [add_def, cell_blk hb4]; rfl, _, by rw [add_def, cell_blk hb4]; rfl, _, by rw [add_def, cell_blk hb4]; rfl,
      _, by rw [add_def, cell_blk hb4]; rfl, _, by rw [add_def, cell_blk hb4]; rfl, _, by rw [add_def, cell_blk hb4]; rfl, _, by rw [add_def, cell_blk hb4]; rfl, _, by rw [add_def, cell_blk hb4]; rfl, _, by rw [add_def, cell_blk hb4]; rfl, _, by rw [add_def, cell_blk hb4]; rfl, _, by rw [add_def, cell_blk hb4]; rfl, ?_⟩
    exact ⟨rfl, Pu.andNew hp3 hf4 fun i hi => by omega⟩

def roomTo (f : Nat → Int) (k : Nat) : Int := ((List.range k).map fun i => f (i + 1)).foldl max 0
theorem roomTo_succ (f : Nat → Int) (k : Nat) : roomTo f (k + 1) = max (roomTo f k) (f (k + 1)) := by simp [roomTo, List.range_succ, List.foldl_append]
theorem room_eq {f : Nat → Int} (h : 0 ≤ f 1) : roomTo f 15 = Lib.maxOf ((List.range 15).map fun i => f (i + 1)) := by
  unfold roomTo Lib.maxOf
  show List.foldl max 0 (f 1 :: (List.range' 1 14).map fun i => f (i + 1)) = List.foldl max (f 1) (f 1 :: (List.range' 1 14).map fun i => f (i + 1))
  simp only [List.foldl_cons]
  rw [Int.max_eq_right h, Int.max_self]

set_option maxHeartbeats 1000000 in
theorem rSizes_c (w : World) (s : SV) (l : List Mod) (hl : RdSl w s l) : Calls Try.prog 23 #[.slice s.a s.len s.cap] w fun e w' => e = .returned (.tuple #[.int .i64 (sizesS l).1, .int .i64 (sizesS l).2.1, .int .i64 (sizesS l).2.2]) ∧ Pu w w' := by
  refine F23_calls s w _ ?_
  refine Calls.mono (rValidate_c w s l hl) ?_
  rintro e w1 ⟨rfl, hp1⟩
  refine ⟨_, rfl, Br.of (fun h1 => ?_) (fun h1 => ?_)⟩
  · have h1 : validS l ≠ 0 := by simpa using h1
    exact ⟨by rw [sizesS, if_neg h1], hp1⟩
  have h1 : validS l = 0 := by simpa using h1
  have hF := fits_of h1
  refine Calls.mono (all_c w1 s l (hl.pu hp1) hF) ?_
  rintro e w2 ⟨t, rfl, hR, hp2⟩
  refine ⟨t, rfl, ?_⟩
  refine Calls.mono (rSizesOf_c w2 t (RL l) hR (fun r hr => RL_mem hF hr) (by rw [RL_len hF]; exact hF.procs)) ?_
  rintro e w3 ⟨rfl, hp3⟩
  have hsz : szR (RL l) = szOf l := funext fun i => szR_all (fun m hm => ⟨hF.sizes m hm, hF.callsL m hm⟩) i
  rw [hsz]
  refine ⟨_, _, _, _, _, _, _, _, _, _, _, _, _, _, _, _, rfl, ?_⟩
  refine boxA (by rfl) (by kernel_rfl) (by rfl) fun w4 hp4 hs4 hb4 => ?_
  have hb4 : w4.heap[w3.heap.size]? = some (.cells (endV (szOf l)).toArray 77) := hb4
  have hP4 := ((hp1.trans hp2).trans hp3).trans hp4
  have hpos : ∀ i, 0 ≤ szOf l i := fun i => (szOf_bounds (fun m hm => ⟨hF.right m hm, hF.sizes m hm⟩) i).1
  refine loopUp 15 (fun k t w' => w' = w4 ∧ t.2 = (k : Int) + 1 ∧ t.1 = roomTo (szOf l) k) ⟨rfl, rfl, rfl⟩ ?_
  rintro k J ⟨n7, t⟩ w5 hk ⟨rfl, ht, hn7⟩ hJ
  obtain rfl : t = (k : Int) + 1 := ht
  have hn7 : n7 = roomTo (szOf l) k := hn7
  dsimp only
  refine Br.of (fun hlt => ?_) (fun hge => ?_)
  · have hlt' : k < 15 := by have := dtrue hlt; omega
    refine ⟨by omega, by omega, szOf l (k + 1), ?_, _, w5, max_run _ _ _ _ _ w5, ?_⟩
    · rw [show ((k : Int) + 1).toNat * 1 = k + 1 by omega, add_def, Nat.zero_add, cell_blk hb4]
      exact endV_at _ (by omega)
    rw [wrap_in (by omega) (by omega)]
    refine hJ _ _ hlt' ⟨rfl, by show (k : Int) + 1 + 1 = ((k + 1 : Nat) : Int) + 1; omega, ?_⟩
    show max n7 _ = _
    rw [hn7, roomTo_succ]
  · have hk15 : k = 15 := by have := dfalse hge; omega
    subst hk15
    refine ⟨by decide, by decide, szOf l 0, ?_, ?_, hP4⟩
    · show w5.cell? ((⟨w3.heap.size, 0, none⟩ : Addr).add 0) = _
      rw [add_def, cell_blk hb4]; exact endV_at _ (by omega)
    · rw [hn7, room_eq (hpos 1), sizesS, if_pos h1]; rfl

theorem fits_k (w : World) (s : SV) (l : List Mod) (hl : RdSl w s l) (hL : Lim.ok l) : Calls Try.prog 5 #[.slice s.a s.len s.cap] w fun e w' => e = .returned (.bool true) ∧ Pu w w' := by
  refine F5_calls s w _ ?_
  refine Calls.mono (over_c w s l hl) ?_
  rintro e w1 ⟨b, rfl, hp1, hov⟩
  refine ⟨b, rfl, Br.of (fun _ => ?_) (fun _ => ?_)⟩
  · refine Calls.mono (known_c w1) ?_
    rintro e w2 ⟨rfl, hp2⟩
    exact ⟨true, rfl, rfl, hp1.trans hp2⟩
  refine Calls.mono (missing2_c w1 s l (hl.pu hp1) hL) ?_
  rintro e w2 ⟨t2, rfl, hr2, hp2⟩
  refine ⟨t2, _, rfl, ?_⟩
  have P2 := hp1.trans hp2
  refine Calls.mono (rMissing2_c w2 s l (hl.pu P2)) ?_
  rintro e w3 ⟨t3, rfl, hr3, hp3⟩
  refine ⟨t3, _, rfl, ?_⟩
  have P3 := P2.trans hp3
  refine Calls.mono (sizes_c w3 s l (hl.pu P3) hL) ?_
  rintro e w4 ⟨rfl, hp4⟩
  refine ⟨_, _, _, rfl, ?_⟩
  have P4 := P3.trans hp4
  refine Calls.mono (rSizes_c w4 s l (hl.pu P4)) ?_
  rintro e w5 ⟨rfl, hp5⟩
  refine ⟨_, _, _, rfl, ?_⟩
  have P5 := P4.trans hp5
  refine Calls.mono (validate_c w5 s l (hl.pu P5) hL) ?_
  rintro e w6 ⟨rfl, hp6⟩
  refine ⟨_, rfl, ?_⟩
  have P6 := P5.trans hp6
  refine Calls.mono (rValidate_c w6 s l (hl.pu P6)) ?_
  rintro e w7 ⟨rfl, hp7⟩
  refine ⟨_, rfl, Br.t (by simp) ?_⟩
  have P7 := P6.trans hp7
  refine Calls.mono (sameTexts_c w7 t2 t3 _ (hr2.pu ((((hp3.trans hp4).trans hp5).trans hp6).trans hp7)) (hr3.pu (((hp4.trans hp5).trans hp6).trans hp7))) ?_
  rintro e w8 ⟨rfl, hp8⟩
  have P8 := P7.trans hp8
  refine ⟨true, rfl, Br.t rfl (Br.t (by simp) (Br.t (by simp) (Br.t (by simp) (Br.t (by simp) ?_))))⟩
  refine Calls.mono (known_c w8) ?_
  rintro e w9 ⟨rfl, hp9⟩
  exact ⟨true, rfl, rfl, P8.trans hp9⟩
end Go.Proofs.Ytcnenlmhbpijlaa
