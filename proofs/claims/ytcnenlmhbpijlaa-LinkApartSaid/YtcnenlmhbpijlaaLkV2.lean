/- Link: the reference's Link, and the law LinkPlaces, walked. No condition but the reach's. -/
import Derived.Test.YtcnenlmhbpijlaaLkV
set_option maxRecDepth 100000
set_option linter.unusedVariables false
set_option linter.unusedSimpArgs false
namespace Go.Proofs.Ytcnenlmhbpijlaa
open Go.Sh Go.RowKit

theorem szI_take {R : List RP} {j : Nat} {r : RP} (h : R[j]? = some r) (o : Int) : szI (R.take (j + 1)) o = szI (R.take j) o + (if r.ov = o then r.size else 0) := by rw [take_at h, szI_snoc]
theorem placesS_take {root : Int} {R : List RP} {k : Nat} {r : RP} (h : R[k]? = some r) : placesS root (R.take (k + 1)) = placesS root (R.take k) ++ [baseOf root r.ov + szI (R.take k) r.ov] := by rw [take_at h, placesS_snoc]

set_option maxHeartbeats 2000000 in
theorem rLink_c (w : World) (s : SV) (l : List Mod) (hl : RdSl w s l) : Calls Try.prog 27 #[.slice s.a s.len s.cap] w fun e w' => ∃ t1 t2 : SV, e = .returned (.tuple #[.slice t1.a t1.len t1.cap, .slice t2.a t2.len t2.cap, .int .i64 (linkS l).2.2]) ∧
    RdSl w' t1 (linkS l).1 ∧ RdSl w' t2 (linkS l).2.1 ∧ Pu w w' := by
  refine F27_calls s w _ ?_
  refine Calls.mono (whole_c w s l hl) ?_
  rintro e w1 ⟨rfl, hp1⟩
  refine ⟨_, rfl, Br.of (fun h1 => ?_) (fun h1 => ?_)⟩
  · have h1 : openE l ≠ 0 := by simpa using h1
    exact ⟨⟨none, 0, 0⟩, ⟨none, 0, 0⟩, by rw [linkS, if_neg h1], by rw [linkS, if_neg h1]; exact RdSl.nil w1 none 0, by rw [linkS, if_neg h1]; exact RdSl.nil w1 none 0, hp1⟩
  have h1 : openE l = 0 := by simpa using h1
  have hF := fits_of (open_valid h1)
  refine Calls.mono (all_c w1 s l (hl.pu hp1) hF) ?_
  rintro e w2 ⟨t6, rfl, hR, hp2⟩
  refine ⟨t6, rfl, ?_⟩
  have hRl : (RL l).length ≤ 100 := by rw [RL_len hF]; exact hF.procs
  have hb : ∀ r ∈ RL l, (0 ≤ r.ov ∧ r.ov ≤ 15) ∧ 1 ≤ r.size ∧ r.size ≤ 10000 := fun r hr => RL_mem hF hr
  have hsz : szR (RL l) = szOf l := funext fun i => szR_all (fun m hm => ⟨hF.sizes m hm, hF.callsL m hm⟩) i
  have hroot := szOf_bounds (l := l) (fun m hm => ⟨hF.right m hm, hF.sizes m hm⟩) 0
  have hn100 := hF.procs
  generalize hr0 : szOf l 0 = root at hroot
  have hlen := hR.len
  have hP2 := hp1.trans hp2
  refine loopUp (RL l).length (fun k t w' => Pu w2 w' ∧ t.2.2 = (k : Int) ∧ RowAt w' 9 1 t.1 (strV (((RL l).take k).map (·.name))) ∧ RowAt w' 3 1 t.2.1 (intV (placesS root ((RL l).take k))) ∧
      (∀ i ∈ blkOf t.1, w2.heap.size ≤ i) ∧ (∀ i ∈ blkOf t.2.1, w2.heap.size ≤ i) ∧ (∀ i ∈ blkOf t.1, i ∉ blkOf t.2.1))
    ⟨Pu.refl w2, rfl, RowAt.nil _ _ _, RowAt.nil _ _ _, by simp [blkOf], by simp [blkOf], by simp [blkOf]⟩ ?_
  rintro k J ⟨l7, l8, t⟩ w3 hk ⟨hp3, ht, hrA, hrB, hfA, hfB, hd⟩ hJ
  obtain rfl : t = (k : Int) := ht
  have hrA : RowAt w3 9 1 l7 (strV (((RL l).take k).map (·.name))) := hrA
  have hrB : RowAt w3 3 1 l8 (intV (placesS root ((RL l).take k))) := hrB
  have hfA : ∀ i ∈ blkOf l7, w2.heap.size ≤ i := hfA
  have hfB : ∀ i ∈ blkOf l8, w2.heap.size ≤ i := hfB
  have hd : ∀ i ∈ blkOf l7, i ∉ blkOf l8 := hd
  dsimp only
  refine Br.of (fun hlt => ?_) (fun hge => ?_)
  · have hlt' : k < (RL l).length := by have := dtrue hlt; omega
    obtain ⟨r, hr⟩ := at_k hlt'
    have hrm := List.mem_of_getElem? hr
    obtain ⟨hov, hrs⟩ := hb r hrm
    have hbk : ∀ x ∈ (RL l).take k, 1 ≤ x.size ∧ x.size ≤ 10000 := fun x hx => (hb x (List.mem_of_mem_take hx)).2
    have hszk := szI_bounds hbk r.ov
    have htl : ((RL l).take k).length = k := by rw [List.length_take]; omega
    have hbase : 0 ≤ baseOf root r.ov ∧ baseOf root r.ov ≤ 1000000 := by unfold baseOf; split <;> omega
    -- behind the base
    have tail : ∀ (n : Int) (w4 : World), n = baseOf root r.ov → Pu w3 w4 → F27_6 (fun e w' => ∃ t1 t2 : SV, e = .returned (.tuple #[.slice t1.a t1.len t1.cap, .slice t2.a t2.len t2.cap, .int .i64 (linkS l).2.2]) ∧
        RdSl w' t1 (linkS l).1 ∧ RdSl w' t2 (linkS l).2.1 ∧ Pu w w') J t6 l7 l8 (k : Int) n 0 [] w4 := fun n w4 hn hp4 => by
      refine loopUp k (fun j t w' => Pu w3 w' ∧ t.2 = (j : Int) ∧ t.1 = baseOf root r.ov + szI ((RL l).take j) r.ov) ⟨hp4, rfl, by rw [hn]; simp [szI]⟩ ?_
      rintro j J2 ⟨n10, t⟩ w5 hj ⟨hp5, ht, hn10⟩ hJ2
      obtain rfl : t = (j : Int) := ht
      have hn10 : n10 = baseOf root r.ov + szI ((RL l).take j) r.ov := hn10
      dsimp only
      have hP5 := hp3.trans hp5
      refine Br.of (fun hlt2 => ?_) (fun hge2 => ?_)
      · have hlt2' : j < k := by have := dtrue hlt2; omega
        obtain ⟨q, hq⟩ := at_k (l := RL l) (k := j) (by omega)
        have hqb := (hb q (List.mem_of_getElem? hq)).2
        have hszj := szI_bounds (R := (RL l).take j) (fun x hx => (hb x (List.mem_of_mem_take hx)).2) r.ov
        have hjl : ((RL l).take j).length = j := by rw [List.length_take]; omega
        have hst := szI_take hq r.ov
        refine dwE_intro fun w6 hp6 hh6 => ?_
        have hP6 := hP5.trans hp6
        obtain ⟨a, t, ha, hi, ht, c0, c1, c2, c3⟩ := rpAt (hR.pu hP6) hq
        obtain ⟨a', t', ha', hi', ht', c0', c1', c2', c3'⟩ := rpAt (hR.pu hP6) hr
        refine ⟨a, ha, by omega, by omega, q.ov, by simpa using c1, a', ha', by omega, by omega, r.ov, by simpa using c1', Br.of (fun h2 => ?_) (fun h2 => ?_)⟩
        · have h2 : q.ov = r.ov := by simpa using h2
          rw [if_pos h2] at hst
          refine ⟨a, ha, by omega, by omega, q.size, by simpa using c2, ?_⟩
          rw [wrap_in (n := n10 + q.size) (by omega) (by omega), wrap_in (n := (j : Int) + 1) (by omega) (by omega)]
          exact hJ2 _ _ hlt2' ⟨hp5.trans hp6, rfl, by show n10 + q.size = _; omega⟩
        · have h2 : q.ov ≠ r.ov := by simpa using h2
          rw [if_neg h2] at hst
          rw [wrap_in (n := (j : Int) + 1) (by omega) (by omega)]
          exact hJ2 _ _ hlt2' ⟨hp5.trans hp6, rfl, by show n10 = _; omega⟩
      · have hjk : j = k := by have := dfalse hge2; omega
        subst hjk
        obtain ⟨a, t, ha, hi, ht, c0, c1, c2, c3⟩ := rpAt (hR.pu hP5) hr
        refine ⟨a, ha, by omega, by omega, r.name, by simpa using c0, ?_⟩
        refine alE_intro fun w6 hw6 => ?_
        have hp6 : Pu w5 w6 := by rw [hw6]; exact Pu.alloc w5 _
        have hn6 : w6.heap[w5.heap.size]? = some (.cells #[.string r.name] 9) := by rw [hw6]; exact alloc_new w5 _
        have hs6 : w6.heap.size = w5.heap.size + 1 := by rw [hw6]; simp
        have hlA : l7.len = j := by have := hrA.1; simp at this; omega
        have hlB : l8.len = j := by have := hrB.1; simp [placesS_len] at this; omega
        have hltA := hrA.lt
        have hltB := hrB.lt
        have hs5 := hp5.size
        obtain ⟨l64, w7, hra, hrow, hf, hblk, hlen'⟩ := row_push (P := Try.prog) (ty := 23) (t := 23) u23 info_str rfl (s := l7) ((hrA.pu hp5).pu hp6) (a := ⟨w5.heap.size, 0, none⟩) (u := .string r.name) (by rw [cell_blk hn6]; rfl) rfl (by omega)
        refine ⟨l64, w7, hra, ?_⟩
        have hp7 : Pu w2 w7 := Pu.andNew ((hp3.trans hp5).trans hp6) hf hfA
        have hs7 := hf.size
        refine alE_intro fun w8 hw8 => ?_
        have hp8 : Pu w7 w8 := by rw [hw8]; exact Pu.alloc w7 _
        have hn8 : w8.heap[w7.heap.size]? = some (.cells #[.int .i64 n10] 3) := by rw [hw8]; exact alloc_new w7 _
        have hs8 : w8.heap.size = w7.heap.size + 1 := by rw [hw8]; simp
        have hrB8 : RowAt w8 3 1 l8 (intV (placesS root ((RL l).take j))) := (((hrB.pu hp5).pu hp6).fr hf fun i hi h => hd i h hi).pu hp8
        have hlt64 := hrow.lt
        obtain ⟨l68, w9, hrb, hrow9, hf9, hblk9, hlen9⟩ := row_push (P := Try.prog) (ty := 30) (t := 30) u30 info3 rfl (s := l8) hrB8 (a := ⟨w7.heap.size, 0, none⟩) (u := .int .i64 n10) (by rw [cell_blk hn8]; rfl) rfl (by omega)
        refine ⟨l68, w9, hrb, ?_⟩
        show J _ _
        rw [wrap_in (n := (j : Int) + 1) (by omega) (by omega)]
        have hs23 := hp3.size
        refine hJ _ _ hlt' ⟨Pu.andNew (hp7.trans hp8) hf9 hfB, rfl, ?_, ?_, fun i hi => ?_, fun i hi => ?_, fun i hi h => ?_⟩
        · show RowAt w9 9 1 l64 _
          rw [take_at hr, List.map_append]
          have := (hrow.pu hp8).fr hf9 fun i hi h => by
            rcases hblk i hi with h' | h'
            · exact hd i h' h
            · have := hltB i h; omega
          simpa [strV] using this
        · show RowAt w9 3 1 l68 _
          rw [placesS_take hr, ← hn10]
          simpa [intV] using hrow9
        · rcases hblk i hi with h | h
          · exact hfA i h
          · omega
        · rcases hblk9 i hi with h | h
          · exact hfB i h
          · omega
        · rcases hblk9 i h with h' | h'
          · rcases hblk i hi with h2 | h2
            · exact hd i h2 h'
            · have := hltB i h'; omega
          · have := hlt64 i hi; omega
    obtain ⟨a, t, ha, hi, ht, c0, c1, c2, c3⟩ := rpAt (hR.pu hp3) hr
    refine ⟨a, ha, by omega, by omega, r.ov, by simpa using c1, Br.of (fun h2 => ?_) (fun h2 => ?_)⟩
    · have h2 := dtrue h2
      refine Calls.mono (rSizesOf_c w3 t6 (RL l) (hR.pu hp3) hb hRl) ?_
      rintro e w4 ⟨rfl, hp4⟩
      rw [hsz]
      refine ⟨_, _, _, _, _, _, _, _, _, _, _, _, _, _, _, _, rfl, ?_⟩
      refine ⟨szOf l 0, w4, index77 (szOf l) w4, ?_⟩
      exact tail _ w4 (by rw [hr0, baseOf, if_neg (by omega)]) hp4
    · have h2 := dfalse h2
      exact tail _ w3 (by rw [baseOf, if_pos (by omega)]) (Pu.refl w3)
  · have hge' : ¬ k < (RL l).length := by have := dfalse hge; omega
    rw [take_end hk hge'] at hrA hrB
    refine ⟨l7, l8, by rw [linkS, if_pos h1], ?_, ?_, hP2.trans hp3⟩
    · rw [linkS, if_pos h1]
      exact rd_of_row hrA (by simp; omega)
    · rw [linkS, if_pos h1, hr0]
      refine rd_of_ints hrB (fun x hx => ?_) (by rw [placesS_len]; omega)
      have := places_bounds (root := root) (by omega) (by omega) (A := RL l) (fun r hr => (hb r hr).2) hRl x hx
      omega

theorem places_k (w : World) (s : SV) (l : List Mod) (hl : RdSl w s l) (hL : Lim.ok l) : Calls Try.prog 7 #[.slice s.a s.len s.cap] w fun e w' => e = .returned (.bool true) ∧ Pu w w' := by
  refine F7_calls s w _ ?_
  refine Calls.mono (over_c w s l hl) ?_
  rintro e w1 ⟨b, rfl, hp1, hov⟩
  refine ⟨b, rfl, Br.of (fun _ => ?_) (fun _ => ?_)⟩
  · refine Calls.mono (known_c w1) ?_
    rintro e w2 ⟨rfl, hp2⟩
    exact ⟨true, rfl, rfl, hp1.trans hp2⟩
  refine Calls.mono (link_c w1 s l (hl.pu hp1) hL) ?_
  rintro e w2 ⟨t1, t2, rfl, hr1, hr2, hp2⟩
  refine ⟨t1, t2, _, rfl, ?_⟩
  have P2 := hp1.trans hp2
  refine Calls.mono (rLink_c w2 s l (hl.pu P2)) ?_
  rintro e w3 ⟨t3, t4, rfl, hr3, hr4, hp3⟩
  refine ⟨t3, t4, _, rfl, ?_⟩
  have P3 := P2.trans hp3
  refine Calls.mono (sameTexts_c w3 t1 t3 _ (hr1.pu hp3) hr3) ?_
  rintro e w4 ⟨rfl, hp4⟩
  refine ⟨true, rfl, Br.t rfl ?_⟩
  have P4 := P3.trans hp4
  refine Calls.mono (sameInts_c w4 t2 t4 _ ((hr2.pu hp3).pu hp4) (hr4.pu hp4)) ?_
  rintro e w5 ⟨rfl, hp5⟩
  refine ⟨true, rfl, Br.t rfl (Br.t (by simp) ?_)⟩
  refine Calls.mono (known_c w5) ?_
  rintro e w6 ⟨rfl, hp6⟩
  exact ⟨true, rfl, rfl, (P4.trans hp5).trans hp6⟩
end Go.Proofs.Ytcnenlmhbpijlaa
