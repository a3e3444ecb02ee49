import Derived.Test.YtcnenlmhbpijlaaLkQ
import Derived.Test.YtcnenlmhbpijlaaLkL
/- Link: the reference's list of procedures; a place in it; sets; what is missing; modules opened. No condition but the reach's. -/
set_option maxRecDepth 100000
set_option linter.unusedVariables false
set_option linter.unusedSimpArgs false
namespace Go.Proofs.Ytcnenlmhbpijlaa
open Go.Sh Go.RowKit

/-- Rows of values of some cells each, read as a list. -/
theorem rd_of_rows {ρ α : Type} [Enc α] {w : World} {e : TypeId} {s : SV} {rows : List ρ} (cells : ρ → List Value) (dat : ρ → α) (hz : 0 < Enc.sz α) (hn : ∀ r, (cells r).length = Enc.sz α) (h : RowAt w e (Enc.sz α) s (rows.flatMap cells))
    (hr : ∀ r ∈ rows, Enc.rd w (cells r) (dat r)) (hl : rows.length ≤ 140737488355328) : RdSl w s (rows.map dat) := by
  have hfl : (rows.flatMap cells).length = rows.length * Enc.sz α := by
    clear h hr hl
    induction rows with
    | nil => simp
    | cons r rs ih => rw [List.flatMap_cons, List.length_append, ih, hn, List.length_cons, Nat.succ_mul]; omega
  have hlen : s.len = rows.length := by
    have := h.1
    rw [hfl] at this
    exact (Nat.eq_of_mul_eq_mul_right hz this).symm
  refine ⟨by simp [hlen], h.le_cap.1, by omega, fun i x hx => ?_⟩
  rw [List.getElem?_map] at hx
  obtain ⟨r, hr', rfl⟩ := Option.map_eq_some_iff.1 hx
  have hmem := List.mem_of_getElem? hr'
  obtain ⟨v0, hv0⟩ : ∃ v, (cells r)[0]? = some v := ⟨_, List.getElem?_eq_getElem (by rw [hn]; exact hz)⟩
  obtain ⟨a, ha, _, _⟩ := h.cell (j := i * Enc.sz α + 0) (v := v0) (flat_at hn hr' hv0)
  refine ⟨a, ha, cells r, hr r hmem, fun j v hv => ?_⟩
  obtain ⟨a', ha', hc, _⟩ := h.cell (j := i * Enc.sz α + j) (v := v) (flat_at hn hr' hv)
  rw [ha] at ha'; cases ha'
  rw [add_twice]
  exact hc
theorem flat_len {ρ : Type} {cells : ρ → List Value} {n : Nat} (hn : ∀ r, (cells r).length = n) (rows : List ρ) : (rows.flatMap cells).length = rows.length * n := by
  induction rows with
  | nil => simp
  | cons r rs ih => rw [List.flatMap_cons, List.length_append, ih, hn, List.length_cons, Nat.succ_mul]; omega

/-! ### The reference's procedures -/
structure RP where
  name : ByteArray
  ov : Int
  size : Int
  calls : List ByteArray
structure RPR where
  r : RP
  s : SV
def RPR.cells (x : RPR) : List Value := [.string x.r.name, .int .i64 x.r.ov, .int .i64 x.r.size, .slice x.s.a x.s.len x.s.cap]
instance : Enc RP where
  sz := 4
  rd w vs r := ∃ s : SV, vs = RPR.cells ⟨r, s⟩ ∧ RdSl w s r.calls
  len h := by obtain ⟨s, rfl, _⟩ := h; rfl
  pu hp h := let ⟨s, h1, h2⟩ := h; ⟨s, h1, h2.pu hp⟩
theorem rpAt {w : World} {s : SV} {l : List RP} (h : RdSl w s l) {i : Nat} {r : RP} (hx : l[i]? = some r) : ∃ a t, s.a = some a ∧ i < s.len ∧ RdSl w t r.calls ∧
    w.cell? (a.add (i * 4)) = some (.string r.name) ∧ w.cell? ((a.add (i * 4)).add 1) = some (.int .i64 r.ov) ∧ w.cell? ((a.add (i * 4)).add 2) = some (.int .i64 r.size) ∧ w.cell? ((a.add (i * 4)).add 3) = some (.slice t.a t.len t.cap) := by
  obtain ⟨a, ha, vs, h1, h2⟩ := h.get i r hx
  obtain ⟨t, rfl, ht⟩ : ∃ t : SV, vs = RPR.cells ⟨r, t⟩ ∧ RdSl w t r.calls := h1
  have hi : i < l.length := (List.getElem?_eq_some_iff.1 hx).1
  have h2 : CellsAt w (a.add (i * 4)) (RPR.cells ⟨r, t⟩) := h2
  have e : ∀ a : Addr, a.add 0 = a := fun a => by simp [Addr.add]
  have h0 := h2 0 _ rfl
  rw [e] at h0
  exact ⟨a, t, ha, by rw [h.len]; exact hi, ht, h0, h2 1 _ rfl, h2 2 _ rfl, h2 3 _ rfl⟩

def rpOf (m : Mod) : List RP := ((m.procs.zip m.sizes).zip m.calls).map fun q => ⟨q.1.1, m.ov, q.1.2, q.2⟩
def RL (l : List Mod) : List RP := l.flatMap rpOf
def RP.dat (r : RP) : PDat := (r.name, r.ov, r.calls)
theorem zip3_map {α β γ : Type} : ∀ {a : List α} {b : List β} {c : List γ}, b.length = a.length → (((a.zip b).zip c).map fun q => (q.1.1, q.2)) = a.zip c
  | [], _, _, _ => by simp
  | x :: a, [], _, h => by simp at h
  | x :: a, y :: b, [], h => by simp
  | x :: a, y :: b, z :: c, h => by
    have h : b.length = a.length := by simpa using h
    simp [zip3_map h]
theorem rpOf_dat {m : Mod} (h : m.sizes.length = m.procs.length) : (rpOf m).map RP.dat = rowsOf m := by
  unfold rpOf rowsOf
  rw [List.map_map, ← zip3_map (c := m.calls) h, List.map_map]
  rfl
theorem RL_dat {l : List Mod} (h : ∀ m ∈ l, m.sizes.length = m.procs.length) : (RL l).map RP.dat = PL l := by
  induction l with
  | nil => rfl
  | cons m r ih =>
    simp only [RL, PL, List.flatMap_cons, List.map_append] at ih ⊢
    rw [rpOf_dat (h m List.mem_cons_self), ih fun x hx => h x (List.mem_cons_of_mem _ hx)]
theorem RL_take {l : List Mod} {k : Nat} {m : Mod} (h : l[k]? = some m) : RL (l.take (k + 1)) = RL (l.take k) ++ rpOf m := by rw [take_at h]; simp [RL]
theorem rpOf_len {m : Mod} (h : m.sizes.length = m.procs.length) (h2 : m.calls.length = m.procs.length) : (rpOf m).length = m.procs.length := by simp [rpOf, h, h2]
theorem rpOf_at {m : Mod} {j : Nat} {x : ByteArray} {z : Int} {c : List ByteArray} (hx : m.procs[j]? = some x) (hz : m.sizes[j]? = some z) (hc : m.calls[j]? = some c) : (rpOf m)[j]? = some ⟨x, m.ov, z, c⟩ := by
  simp only [rpOf, List.getElem?_map]
  rw [show ((m.procs.zip m.sizes).zip m.calls)[j]? = some ((x, z), c) from by
    rw [List.getElem?_zip_eq_some]; exact ⟨by rw [List.getElem?_zip_eq_some]; exact ⟨hx, hz⟩, hc⟩]
  rfl
theorem RL_len {l : List Mod} (hF : Fits l) : (RL l).length = nprocs l := by
  have := congrArg List.length (RL_dat hF.sizes)
  rw [List.length_map, PL_len hF.callsL] at this
  exact this

theorem u68 : Try.prog.underlying 68 = some (.slice 72) := by kernel_rfl
theorem info72 : (Try.prog.info? 72).map (fun i => (i.zero, i.size, i.bytes)) = some (some (.agg #[.string ⟨#[]⟩, .int .i64 0, .int .i64 0, .slice none 0 0]), 4, 56) := by kernel_rfl

set_option maxHeartbeats 1000000 in
theorem all_c (w : World) (s : SV) (l : List Mod) (hl : RdSl w s l) (hF : Fits l) : Calls Try.prog 59 #[.slice s.a s.len s.cap] w fun e w' => ∃ t : SV, e = .returned (.slice t.a t.len t.cap) ∧ RdSl w' t (RL l) ∧ Pu w w' := by
  refine F59_calls s w _ ?_
  have hlen := hl.len
  have hl32 := hF.len
  refine loopUp l.length (fun k t w' => Pu w w' ∧ t.2 = (k : Int) ∧ ∃ rows : List RPR, rows.map (·.r) = RL (l.take k) ∧ (∀ x ∈ rows, RdSl w x.s x.r.calls) ∧ RowAt w' 72 4 t.1 (rows.flatMap RPR.cells) ∧ ∀ i ∈ blkOf t.1, w.heap.size ≤ i)
    ⟨Pu.refl w, rfl, [], rfl, by simp, RowAt.nil _ _ _, by simp [blkOf]⟩ ?_
  rintro k J ⟨l3, t⟩ w1 hk ⟨hp1, ht, rows, hrows, hRd, hrow, hf3⟩ hJ
  obtain rfl : t = (k : Int) := ht
  have hrow : RowAt w1 72 4 l3 (rows.flatMap RPR.cells) := hrow
  have hf3 : ∀ i ∈ blkOf l3, w.heap.size ≤ i := hf3
  dsimp only
  have hrl : rows.length = (RL (l.take k)).length := by have := congrArg List.length hrows; simpa using this
  have hRLk : (RL (l.take k)).length = nprocs (l.take k) := by
    have := congrArg List.length (RL_dat (l := l.take k) fun m hm => hF.sizes m (List.mem_of_mem_take hm))
    rw [List.length_map, PL_len fun m hm => hF.callsL m (List.mem_of_mem_take hm)] at this
    exact this
  refine Br.of (fun hlt => ?_) (fun hge => ?_)
  · have hlt' : k < l.length := by have := dtrue hlt; omega
    obtain ⟨m, hm⟩ := at_k hlt'
    have hmem := List.mem_of_getElem? hm
    obtain ⟨a, p, z, c, ha, hi, hM, c0, c1, c2, c3, c4⟩ := modAt hl hm
    have hpl := hM.procs.len
    have hzl := hM.sizes.len
    have hcl := hM.calls.len
    have hsz := hF.sizes m hmem
    have hca := hF.callsL m hmem
    have hle := procs_le hmem
    have hp100 := hF.procs
    have hnk := nprocs_take hm
    have hnle := nprocs_le (l := l) (k := k + 1)
    refine loopUp m.procs.length (fun j t w' => Pu w w' ∧ t.2 = (j : Int) ∧ ∃ ex : List RPR, ex.map (·.r) = (rpOf m).take j ∧ (∀ x ∈ ex, RdSl w x.s x.r.calls) ∧ RowAt w' 72 4 t.1 ((rows ++ ex).flatMap RPR.cells) ∧ ∀ i ∈ blkOf t.1, w.heap.size ≤ i)
      ⟨hp1, rfl, [], by simp, by simp, by simpa using hrow, hf3⟩ ?_
    rintro j J2 ⟨l3', t⟩ w2 hj ⟨hp2, ht, ex, hex, hRx, hrow2, hf2⟩ hJ2
    obtain rfl : t = (j : Int) := ht
    have hrow2 : RowAt w2 72 4 l3' ((rows ++ ex).flatMap RPR.cells) := hrow2
    have hf2 : ∀ i ∈ blkOf l3', w.heap.size ≤ i := hf2
    dsimp only
    refine ⟨a, ha, by omega, by omega, p, by simpa using hp2.cell c2, Br.of (fun hlt2 => ?_) (fun hge2 => ?_)⟩
    · have hlt2' : j < m.procs.length := by have := dtrue hlt2; omega
      obtain ⟨x, hx⟩ := at_k hlt2'
      obtain ⟨y, hy⟩ := at_k (l := m.sizes) (k := j) (by omega)
      obtain ⟨cs, hcs⟩ := at_k (l := m.calls) (k := j) (by omega)
      obtain ⟨a5, ha5, hi5, hc5⟩ := hM.procs.str hx
      obtain ⟨a8, ha8, hi8, hc8, _⟩ := hM.sizes.int hy
      obtain ⟨a10, t10, ha10, hi10, hc10, ht10⟩ := listAt hM.calls hcs
      refine dwE_intro fun w3 hp3 hh3 => ?_
      have hP3 := hp2.trans hp3
      refine ⟨a, ha, by omega, by omega, p, by simpa using hP3.cell c2, a5, ha5, by omega, by omega, x, by simpa using hP3.cell hc5, a, ha, by omega, by omega, m.ov, by simpa using hP3.cell c1, a, ha, by omega, by omega, z, by simpa using hP3.cell c3, a8, ha8, by omega, by omega, y, by simpa using hP3.cell hc8,
        a, ha, by omega, by omega, c, by simpa using hP3.cell c4, a10, ha10, by omega, by omega, t10, by simpa using hP3.cell hc10, ?_⟩
      refine alE_intro fun w4 hw4 => ?_
      have hp4 : Pu w3 w4 := by rw [hw4]; exact Pu.alloc w3 _
      have hn4 := alloc_new w3 (Obj.cells #[.string x, .int .i64 m.ov, .int .i64 y, .slice t10.a t10.len t10.cap] 72)
      rw [← hw4] at hn4
      have hl3' : l3'.len = rows.length + ex.length := by have := hrow2.1; rw [flat_len (n := 4) (fun _ => rfl), List.length_append] at this; omega
      have hexl : ex.length = j := by have := congrArg List.length hex; simp [rpOf_len hsz hca] at this; omega
      obtain ⟨i72, g1, g2, g3, g4⟩ := info_parts info72
      obtain ⟨l54, w5, hra, hrow5, hf5, hblk5, hlen5⟩ := row_append (P := Try.prog) (ty := 68) (t := 68) (s := l3') u68 g1 g2 g3 rfl (by decide) ((hrow2.pu hp3).pu hp4) (a := ⟨w3.heap.size, 0, none⟩) (m := 1) (c := 1) (news := RPR.cells ⟨⟨x, m.ov, y, cs⟩, t10⟩) rfl (fun j v hv => by
        rw [add_def, cell_blk hn4, Nat.zero_add]
        simpa [RPR.cells] using hv) (fun v hv => by
        simp only [RPR.cells, List.mem_cons, List.not_mem_nil, or_false] at hv
        rcases hv with rfl | rfl | rfl | rfl <;> rfl) (by rw [g4]; omega)
      refine ⟨l54, w5, hra, ?_⟩
      rw [wrap_in (by omega) (by omega)]
      have hs2 := hp2.size
      have hs3 := hp3.size
      have hs4 := hp4.size
      refine hJ2 _ _ hlt2' ⟨Pu.andNew (hP3.trans hp4) hf5 hf2, rfl, ex ++ [⟨⟨x, m.ov, y, cs⟩, t10⟩], ?_, ?_, ?_, ?_⟩
      · rw [List.map_append, hex, take_at (rpOf_at hx hy hcs)]; rfl
      · intro q hq
        rcases List.mem_append.1 hq with h | h
        · exact hRx q h
        · simp at h; subst h; exact ht10
      · show RowAt w5 72 4 l54 _
        rw [← List.append_assoc, List.flatMap_append]
        simp only [List.flatMap_cons, List.flatMap_nil, List.append_nil]
        exact hrow5
      · intro i hi
        rcases hblk5 i hi with h | h
        · exact hf2 i h
        · omega
    · have hge2' : ¬ j < m.procs.length := by have := dfalse hge2; omega
      have hte := take_end (l := rpOf m) (k := j) (by rw [rpOf_len hsz hca]; omega) (by rw [rpOf_len hsz hca]; omega)
      rw [hte] at hex
      show J _ _
      rw [wrap_in (by omega) (by omega)]
      refine hJ _ _ hlt' ⟨hp2, rfl, rows ++ ex, by rw [List.map_append, hrows, hex, RL_take hm], fun q hq => ?_, hrow2, hf2⟩
      rcases List.mem_append.1 hq with h | h
      · exact hRd q h
      · exact hRx q h
  · have hge' : ¬ k < l.length := by have := dfalse hge; omega
    rw [take_end hk hge'] at hrows hRLk hrl
    refine ⟨l3, rfl, ?_, hp1⟩
    rw [← hrows]
    have hp100 := hF.procs
    exact rd_of_rows (α := RP) RPR.cells (·.r) (by decide) (fun _ => rfl) hrow (fun x hx => ⟨x.s, rfl, (hRd x hx).pu hp1⟩) (by omega)

def findS (R : List RP) (x : ByteArray) : Int := idxF (fun r => decide (r.name = x)) R
theorem find_isIn (R : List RP) (x : ByteArray) : (R.any fun r => decide (r.name = x)) = isIn (R.map RP.dat) x := by
  induction R with
  | nil => rfl
  | cons r R ih =>
    simp only [List.any_cons, List.map_cons, isIn, RP.dat, AL.get] at ih ⊢
    by_cases h : r.name = x
    · simp [h]
    · simp only [h, decide_false, Bool.false_or, if_false]; exact ih
theorem findS_neg (R : List RP) (x : ByteArray) : decide (findS R x < 0) = !isIn (R.map RP.dat) x := by
  rw [← find_isIn]
  unfold findS idxF
  split
  · rename_i h; rw [h]; exact decide_eq_false (by omega)
  · rename_i h
    have h : (R.any fun r => decide (r.name = x)) = false := by simpa using h
    rw [h]; rfl
theorem findS_at {R : List RP} {x : ByteArray} (h : isIn (R.map RP.dat) x = true) : ∃ (k : Nat) (r : RP), findS R x = (k : Int) ∧ R[k]? = some r ∧ r.name = x ∧ (r.ov, r.calls) = getD (R.map RP.dat) x := by
  induction R with
  | nil => simp [isIn, AL.get] at h
  | cons r R ih =>
    by_cases hr : r.name = x
    · refine ⟨0, r, ?_, rfl, hr, ?_⟩
      · simp [findS, idxF, hr, List.findIdx_cons]
      · simp [getD, AL.get, RP.dat, hr]
    · have h' : isIn (R.map RP.dat) x = true := by simpa [isIn, AL.get, RP.dat, hr] using h
      obtain ⟨k, q, h1, h2, h3, h4⟩ := ih h'
      have hany : (R.any fun r => decide (r.name = x)) = true := by rw [find_isIn]; exact h'
      refine ⟨k + 1, q, ?_, by simpa using h2, h3, ?_⟩
      · unfold findS idxF at h1 ⊢
        rw [hany] at h1
        simp only [if_true] at h1
        simp only [List.any_cons, hr, decide_false, Bool.false_or, hany, if_true, List.findIdx_cons, cond_false]
        omega
      · rw [h4]; simp [getD, AL.get, RP.dat, hr]

theorem find_c (w : World) (s : SV) (R : List RP) (hR : RdSl w s R) (x : ByteArray) : Calls Try.prog 52 #[.slice s.a s.len s.cap, .string x] w fun e w' => e = .returned (.int .i64 (findS R x)) ∧ w' = w := by
  refine F52_calls s x w _ ?_
  have hlen := hR.len
  have hlim := hR.lim
  refine loopUp R.length (fun k t w' => w' = w ∧ t = (k : Int) ∧ (R.any fun r => decide (r.name = x)) = ((R.drop k).any fun r => decide (r.name = x)) ∧ ((R.any fun r => decide (r.name = x)) = true → R.findIdx (fun r => decide (r.name = x)) = k + (R.drop k).findIdx (fun r => decide (r.name = x)))) ⟨rfl, rfl, rfl, fun _ => by simp⟩ ?_
  rintro k J t w' hk ⟨rfl, rfl, hany, hidx⟩ hJ
  refine Br.of (fun hlt => ?_) (fun hge => ?_)
  · have hlt' : k < R.length := by have := dtrue hlt; omega
    obtain ⟨r, hr⟩ := at_k hlt'
    obtain ⟨a, t, ha, hi, ht, c0, c1, c2, c3⟩ := rpAt hR hr
    rw [drop_at hr] at hany hidx
    refine ⟨a, ha, by omega, by omega, r.name, by simpa using c0, ?_⟩
    rw [beq_bytes']
    refine Br.of (fun h1 => ?_) (fun h1 => ?_)
    · refine ⟨?_, rfl⟩
      rw [List.any_cons, h1, Bool.true_or] at hany
      have := hidx hany
      simp only [List.findIdx_cons, h1, cond_true] at this
      simp only [findS, idxF, hany, if_true, this]; rfl
    · rw [wrap_in (by omega) (by omega)]
      rw [List.any_cons, h1, Bool.false_or] at hany
      refine hJ _ _ hlt' ⟨rfl, rfl, hany, fun h => ?_⟩
      have := hidx h
      simp only [List.findIdx_cons, h1, cond_false] at this
      omega
  · have hge' : ¬ k < R.length := by have := dfalse hge; omega
    rw [drop_end hge'] at hany
    refine ⟨?_, rfl⟩
    have : (R.any fun r => decide (r.name = x)) = false := by simpa using hany
    simp only [findS, idxF, this]; rfl
end Go.Proofs.Ytcnenlmhbpijlaa
