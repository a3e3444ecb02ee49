import Derived.Test.YtcnenlmhbpijlaaLkR
/- Link: the reference's sets; what is missing; modules opened. No condition but the reach's. -/
set_option maxRecDepth 100000
set_option linter.unusedVariables false
set_option linter.unusedSimpArgs false
namespace Go.Proofs.Ytcnenlmhbpijlaa
open Go.Sh Go.RowKit

theorem sortS_c (w : World) (s : SV) (l : List ByteArray) (h : RowAt w 9 1 s (strV l)) (hl : l.length ≤ 140737488355328) :
    Calls Try.prog 103 #[.slice s.a s.len s.cap] w fun e w' => e = .returned (.tuple #[]) ∧ RowAt w' 9 1 s (strV (srt l)) ∧ Fr (· ∈ blkOf s) w w' := by
  refine F103_calls s w _ ?_
  refine Calls.mono (sort_c w s l h hl) ?_
  rintro e w' ⟨rfl, h1, h2⟩
  exact ⟨rfl, rfl, h1, h2⟩

theorem set_c (w : World) (s : SV) (l : List ByteArray) (hl : RdSl w s l) (hN : l.length ≤ 1000000) :
    Calls Try.prog 68 #[.slice s.a s.len s.cap] w fun e w' => ∃ t : SV, e = .returned (.slice t.a t.len t.cap) ∧ t.len = (setS l).length ∧ RowAt w' 9 1 t (strV (setS l)) ∧ (∀ i ∈ blkOf t, w.heap.size ≤ i) ∧ Pu w w' := by
  refine F68_calls s w _ ?_
  have hlen := hl.len
  obtain ⟨l6, w1, hra, hrow, hf1, hblk1, hlen1⟩ := row_append_strs (P := Try.prog) (ty := 23) (t := 23) u23 info_str (s := ⟨none, 0, 0⟩) (RowAt.nil w 9 1) hl (by show 0 + s.len ≤ _; omega)
  rw [List.nil_append] at hrow
  have hp1 : Pu w w1 := hf1.toPu fun i hi => by simp [blkOf] at hi
  have hf6 : ∀ i ∈ blkOf l6, w.heap.size ≤ i := fun i hi => by
    rcases hblk1 i hi with h | h
    · simp [blkOf] at h
    · exact h
  refine ⟨l6, w1, hra, ?_⟩
  refine Calls.mono (sortS_c w1 l6 l hrow (by omega)) ?_
  rintro e w2 ⟨rfl, hrow2, hf2⟩
  refine ⟨rfl, ?_⟩
  have hp2 : Pu w w2 := Pu.andNew hp1 hf2 hf6
  have hrd := rd_of_row hrow2 (by rw [srt_length]; omega)
  have hl6 : l6.len = (srt l).length := hrd.len
  have hsl := srt_length l
  have hlt6 := hrow2.lt
  refine loopUp (srt l).length (fun k t w' => Pu w2 w' ∧ t.2 = (k : Int) ∧ RowAt w' 9 1 t.1 (strV (cpt ((srt l).take k))) ∧ (∀ i ∈ blkOf t.1, w2.heap.size ≤ i)) ⟨Pu.refl _, rfl, RowAt.nil _ _ _, by simp [blkOf]⟩ ?_
  rintro k J ⟨l3, t⟩ w3 hk ⟨hp3, ht, hrow3, hf3⟩ hJ
  obtain rfl : t = (k : Int) := ht
  have hrow3 : RowAt w3 9 1 l3 (strV (cpt ((srt l).take k))) := hrow3
  have hf3 : ∀ i ∈ blkOf l3, w2.heap.size ≤ i := hf3
  dsimp only
  refine Br.of (fun hlt => ?_) (fun hge => ?_)
  · have hlt' : k < (srt l).length := by have := dtrue hlt; omega
    obtain ⟨x, hx⟩ := at_k hlt'
    obtain ⟨a, ha, hi, hc⟩ := hrd.str hx
    refine dwE_intro fun w4 hp4 hh4 => ?_
    have hP4 := hp3.trans hp4
    have hl3 : l3.len ≤ k := by
      have h1 := hrow3.1
      have h2 := cptFrom_len ((srt l).take k) none
      simp only [strV, List.length_map, cpt] at h1
      simp at h2
      omega
    have push : cpt ((srt l).take (k + 1)) = cpt ((srt l).take k) ++ [x] → alE (.cells #[.string x] 9) w4 fun r34 w5 => ∃ l35 : SV, ∃ w6 : World, (Builtin.append_ #[23, 23] 23 #[.slice l3.a l3.len l3.cap, .slice (some ⟨r34, 0, none⟩) 1 1]).run Try.prog w5 = .ok (.slice l35.a l35.len l35.cap) w6 ∧ J (l35, IntKind.i64.wrap ((k : Int) + 1)) w6 := fun he => by
      refine alE_intro fun w5 hw5 => ?_
      have hp5 : Pu w4 w5 := by rw [hw5]; exact Pu.alloc w4 _
      have hn5 : w5.heap[w4.heap.size]? = some (.cells #[.string x] 9) := by rw [hw5]; exact alloc_new w4 _
      obtain ⟨l35, w6, hrb, hrow6, hf6', hblk6, hlen6⟩ := row_push (P := Try.prog) (ty := 23) (t := 23) u23 info_str rfl (s := l3) ((hrow3.pu hp4).pu hp5) (a := ⟨w4.heap.size, 0, none⟩) (u := .string x) (by rw [cell_blk hn5]; rfl) rfl (by omega)
      refine ⟨l35, w6, hrb, ?_⟩
      rw [wrap_in (by omega) (by omega)]
      have hs3 := hp3.size
      have hs4 := hp4.size
      have hs5 := hp5.size
      refine hJ _ _ hlt' ⟨Pu.andNew (hP4.trans hp5) hf6' hf3, rfl, ?_, fun i hi => ?_⟩
      · show RowAt w6 9 1 l35 _
        rw [he]
        simpa [strV] using hrow6
      · rcases hblk6 i hi with h | h
        · exact hf3 i h
        · omega
    have hcpt := cpt_take hx
    refine Br.of (fun h0 => ?_) (fun h0 => ?_)
    · have h0 : k = 0 := by have : (k : Int) = 0 := by simpa using h0
                            omega
      subst h0
      refine ⟨a, ha, by omega, by omega, x, by simpa using hP4.cell hc, push ?_⟩
      rw [hcpt]; simp
    · have h0 : k ≠ 0 := by have : ¬ (k : Int) = 0 := by simpa using h0
                            omega
      obtain ⟨y, hy⟩ := at_k (l := srt l) (k := k - 1) (by omega)
      obtain ⟨a', ha', hi', hc'⟩ := hrd.str hy
      rw [ha] at ha'; cases ha'
      refine ⟨a, ha, by omega, by omega, x, by simpa using hP4.cell hc, a, ha, ?_⟩
      rw [wrap_in (n := (k : Int) - 1) (by omega) (by omega)]
      refine ⟨by omega, by omega, y, ?_, ?_⟩
      · rw [show ((k : Int) - 1).toNat = k - 1 by omega]; exact hP4.cell hc'
      rw [beq_bytes']
      refine Br.of (fun h1 => ?_) (fun h1 => ?_)
      · have h1 : ¬ x = y := by simpa using h1
        refine ⟨a, ha, by omega, by omega, x, by simpa using hP4.cell hc, push ?_⟩
        rw [hcpt, hy, if_neg (fun h => h1 (Option.some.inj h.2).symm)]
      · have h1 : x = y := by simpa using h1
        rw [wrap_in (by omega) (by omega)]
        refine hJ _ _ hlt' ⟨hP4, rfl, ?_, hf3⟩
        show RowAt w4 9 1 l3 _
        rw [hcpt, hy, if_pos ⟨h0, by rw [h1]⟩, List.append_nil]
        exact hrow3.pu hp4
  · have hge' : ¬ k < (srt l).length := by have := dfalse hge; omega
    rw [take_end hk hge'] at hrow3
    have hs2 := hp2.size
    refine ⟨l3, rfl, ?_, hrow3, fun i hi => by have := hf3 i hi; omega, hp2.trans hp3⟩
    have := hrow3.1
    simp only [strV, List.length_map] at this
    show l3.len = (cpt (srt l)).length
    omega

set_option maxHeartbeats 1000000 in
theorem rMissing_c (w : World) (s : SV) (l : List Mod) (hl : RdSl w s l) (hF : Fits l) :
    Calls Try.prog 55 #[.slice s.a s.len s.cap] w fun e w' => ∃ t : SV, e = .returned (.slice t.a t.len t.cap) ∧ t.len = (missS (PL l)).length ∧ RowAt w' 9 1 t (strV (missS (PL l))) ∧ (∀ i ∈ blkOf t, w.heap.size ≤ i) ∧ Pu w w' := by
  refine F55_calls s w _ ?_
  refine Calls.mono (all_c w s l hl hF) ?_
  rintro e w1 ⟨l8, rfl, hR, hp1⟩
  refine ⟨l8, rfl, ?_⟩
  have hRl : (RL l).length ≤ 100 := by rw [RL_len hF]; exact hF.procs
  have hlen := hR.len
  have hdat := RL_dat hF.sizes
  have hcalls : ∀ r ∈ RL l, r.calls.length ≤ 100 := fun r hr => by
    have : RP.dat r ∈ PL l := by rw [← hdat]; exact List.mem_map_of_mem hr
    obtain ⟨m, hm, _, _, hc⟩ := PL_mem this
    exact hF.calls m hm _ hc
  have hs1 := hp1.size
  obtain ⟨ms, hms⟩ : ∃ ms : RP → List ByteArray, ms = fun r => r.calls.filter fun c => !isIn (PL l) c := ⟨_, rfl⟩
  have hmsl : ∀ r ∈ RL l, (ms r).length ≤ 100 := fun r hr => by
    rw [hms]
    exact Nat.le_trans (List.length_filter_le _ _) (hcalls r hr)
  have hflat : ∀ k, k ≤ (RL l).length → (((RL l).take k).flatMap ms).length ≤ k * 100 := by
    intro k
    induction k with
    | zero => intro _; simp
    | succ k ih =>
      intro hk
      obtain ⟨r, hr⟩ := at_k (l := RL l) (k := k) (by omega)
      have h1 := ih (by omega)
      have h2 := hmsl r (List.mem_of_getElem? hr)
      rw [take_at hr, List.flatMap_append, List.length_append]
      simp only [List.flatMap_cons, List.flatMap_nil, List.append_nil]
      omega
  have hall : (RL l).flatMap ms = missL (PL l) := by
    rw [hms]
    unfold missL
    rw [← hdat, List.flatMap_map]
    rfl
  refine loopUp (RL l).length (fun k t w' => Pu w1 w' ∧ t.2 = (k : Int) ∧ RowAt w' 9 1 t.1 (strV (((RL l).take k).flatMap ms)) ∧ (∀ i ∈ blkOf t.1, w1.heap.size ≤ i)) ⟨Pu.refl _, rfl, RowAt.nil _ _ _, by simp [blkOf]⟩ ?_
  rintro k J ⟨l4, t⟩ w2 hk ⟨hp2, ht, hrow2, hf2⟩ hJ
  obtain rfl : t = (k : Int) := ht
  have hrow2 : RowAt w2 9 1 l4 (strV (((RL l).take k).flatMap ms)) := hrow2
  have hf2 : ∀ i ∈ blkOf l4, w1.heap.size ≤ i := hf2
  dsimp only
  refine Br.of (fun hlt => ?_) (fun hge => ?_)
  · have hlt' : k < (RL l).length := by have := dtrue hlt; omega
    obtain ⟨r, hr⟩ := at_k hlt'
    have hrm := List.mem_of_getElem? hr
    obtain ⟨a, tc, ha, hi, htc, c0, c1, c2, c3⟩ := rpAt hR hr
    have htl := htc.len
    have hcl := hcalls r hrm
    have hfl := hflat k hk
    refine loopUp r.calls.length (fun j t w' => Pu w1 w' ∧ t.2 = (j : Int) ∧ RowAt w' 9 1 t.1 (strV (((RL l).take k).flatMap ms ++ (r.calls.take j).filter fun c => !isIn (PL l) c)) ∧ (∀ i ∈ blkOf t.1, w1.heap.size ≤ i)) ⟨hp2, rfl, by simpa using hrow2, hf2⟩ ?_
    rintro j J2 ⟨l4', t⟩ w3 hj ⟨hp3, ht, hrow3, hf3⟩ hJ2
    obtain rfl : t = (j : Int) := ht
    have hrow3 : RowAt w3 9 1 l4' (strV (((RL l).take k).flatMap ms ++ (r.calls.take j).filter fun c => !isIn (PL l) c)) := hrow3
    have hf3 : ∀ i ∈ blkOf l4', w1.heap.size ≤ i := hf3
    dsimp only
    refine ⟨a, ha, by omega, by omega, tc, by simpa using hp3.cell c3, Br.of (fun hlt2 => ?_) (fun hge2 => ?_)⟩
    · have hlt2' : j < r.calls.length := by have := dtrue hlt2; omega
      obtain ⟨x, hx⟩ := at_k hlt2'
      obtain ⟨a5, ha5, hi5, hc5⟩ := htc.str hx
      refine ⟨a, ha, by omega, by omega, tc, by simpa using hp3.cell c3, a5, ha5, by omega, by omega, x, by simpa using hp3.cell hc5, ?_⟩
      refine Calls.mono (find_c w3 l8 (RL l) (hR.pu hp3) x) ?_
      rintro e w4 ⟨rfl, rfl⟩
      refine ⟨_, rfl, ?_⟩
      rw [findS_neg, hdat]
      refine Br.of (fun h1 => ?_) (fun h1 => ?_)
      · refine ⟨a, ha, by omega, by omega, tc, by simpa using hp3.cell c3, a5, ha5, by omega, by omega, x, by simpa using hp3.cell hc5, ?_⟩
        refine alE_intro fun w5 hw5 => ?_
        have hp5 : Pu w4 w5 := by rw [hw5]; exact Pu.alloc w4 _
        have hn5 : w5.heap[w4.heap.size]? = some (.cells #[.string x] 9) := by rw [hw5]; exact alloc_new w4 _
        have hl4 : l4'.len ≤ 10100 := by
          have h1 := hrow3.1
          have h2 := List.length_filter_le (fun c => !isIn (PL l) c) (r.calls.take j)
          have h3 : (r.calls.take j).length ≤ r.calls.length := by simp; omega
          simp only [strV, List.length_map, List.length_append] at h1
          omega
        obtain ⟨l46, w6, hrb, hrow6, hf6', hblk6, hlen6⟩ := row_push (P := Try.prog) (ty := 23) (t := 23) u23 info_str rfl (s := l4') (hrow3.pu hp5) (a := ⟨w4.heap.size, 0, none⟩) (u := .string x) (by rw [cell_blk hn5]; rfl) rfl (by omega)
        refine ⟨l46, w6, hrb, ?_⟩
        rw [wrap_in (by omega) (by omega)]
        have hs3 := hp3.size
        have hs5 := hp5.size
        refine hJ2 _ _ hlt2' ⟨Pu.andNew (hp3.trans hp5) hf6' hf3, rfl, ?_, fun i hi => ?_⟩
        · show RowAt w6 9 1 l46 _
          rw [take_at hx, List.filter_append, List.filter_cons, if_pos h1, List.filter_nil, ← List.append_assoc]
          simpa [strV] using hrow6
        · rcases hblk6 i hi with h | h
          · exact hf3 i h
          · omega
      · rw [wrap_in (by omega) (by omega)]
        refine hJ2 _ _ hlt2' ⟨hp3, rfl, ?_, hf3⟩
        show RowAt w4 9 1 l4' _
        rw [take_at hx, List.filter_append, List.filter_cons, if_neg (by rw [h1]; simp), List.filter_nil, List.append_nil]
        exact hrow3
    · have hge2' : ¬ j < r.calls.length := by have := dfalse hge2; omega
      rw [take_end hj hge2'] at hrow3
      show J _ _
      rw [wrap_in (by omega) (by omega)]
      refine hJ _ _ hlt' ⟨hp3, rfl, ?_, hf3⟩
      show RowAt w3 9 1 l4' _
      rw [take_at hr, List.flatMap_append]
      simp only [List.flatMap_cons, List.flatMap_nil, List.append_nil]
      rw [hms] at hrow3 ⊢
      exact hrow3
  · have hge' : ¬ k < (RL l).length := by have := dfalse hge; omega
    rw [take_end hk hge', hall] at hrow2
    have hml : (missL (PL l)).length ≤ 1000000 := by
      have := hflat _ (Nat.le_refl (RL l).length)
      rw [List.take_length, hall] at this
      omega
    refine Calls.mono (set_c w2 l4 (missL (PL l)) (rd_of_row hrow2 (by omega)) hml) ?_
    rintro e w3 ⟨t, rfl, ht, hrow3, hf3, hp3⟩
    have hs2 := hp2.size
    exact ⟨t, rfl, t, rfl, ht, hrow3, fun i hi => by have := hf3 i hi; omega, (hp1.trans hp2).trans hp3⟩

theorem whole_c (w : World) (s : SV) (l : List Mod) (hl : RdSl w s l) : Calls Try.prog 63 #[.slice s.a s.len s.cap] w fun e w' => e = .returned (.int .i64 (openE l)) ∧ Pu w w' := by
  refine F63_calls s w _ ?_
  refine Calls.mono (rValidate_c w s l hl) ?_
  rintro e w1 ⟨rfl, hp1⟩
  refine ⟨_, rfl, Br.of (fun h1 => ?_) (fun h1 => ?_)⟩
  · have h1 : validS l ≠ 0 := by simpa using h1
    exact ⟨by rw [openE, if_neg h1], hp1⟩
  have h1 : validS l = 0 := by simpa using h1
  refine Calls.mono (rMissing_c w1 s l (hl.pu hp1) (fits_of h1)) ?_
  rintro e w2 ⟨t, rfl, ht, _, _, hp2⟩
  refine ⟨t, rfl, Br.of (fun h2 => ?_) (fun h2 => ?_)⟩
  · have h2 := dtrue h2
    exact ⟨by rw [openE, if_pos h1, if_neg (by omega)], hp1.trans hp2⟩
  · have h2 := dfalse h2
    exact ⟨by rw [openE, if_pos h1, if_pos (by omega)], hp1.trans hp2⟩

theorem rFrom_c (w : World) (s : SV) (l : List Mod) (hl : RdSl w s l) (name : ByteArray) : Calls Try.prog 51 #[.slice s.a s.len s.cap, .string name] w fun e w' => ∃ (t : SV) (n : Int), e = .returned (.tuple #[.slice t.a t.len t.cap, .int .i64 n, .int .i64 (fromE l name)]) ∧ Pu w w' ∧
    (fromE l name = 0 → RdSl w' t (RL l) ∧ n = findS (RL l) name) := by
  refine F51_calls s name w _ ?_
  refine Calls.mono (whole_c w s l hl) ?_
  rintro e w1 ⟨rfl, hp1⟩
  refine ⟨_, rfl, Br.of (fun h1 => ?_) (fun h1 => ?_)⟩
  · have h1 : openE l ≠ 0 := by simpa using h1
    have ho : fromE l name = openE l := by rw [fromE, if_neg h1]
    exact ⟨⟨none, 0, 0⟩, 0, by rw [ho], hp1, fun h => absurd (ho ▸ h) h1⟩
  have h1 : openE l = 0 := by simpa using h1
  have hF := fits_of (open_valid h1)
  refine Calls.mono (all_c w1 s l (hl.pu hp1) hF) ?_
  rintro e w2 ⟨t, rfl, hR, hp2⟩
  refine ⟨t, rfl, ?_⟩
  refine Calls.mono (find_c w2 t (RL l) hR name) ?_
  rintro e w3 ⟨rfl, rfl⟩
  refine ⟨_, rfl, ?_⟩
  rw [findS_neg, RL_dat hF.sizes]
  refine Br.of (fun h2 => ?_) (fun h2 => ?_)
  · have h2 : isIn (PL l) name = false := by simpa using h2
    have ho : fromE l name = 4 := by rw [fromE, if_pos h1, h2]; rfl
    exact ⟨⟨none, 0, 0⟩, 0, by rw [ho], hp1.trans hp2, fun h => by rw [ho] at h; cases h⟩
  · have h2 : isIn (PL l) name = true := by simpa using h2
    have ho : fromE l name = 0 := by rw [fromE, if_pos h1, if_pos h2]
    exact ⟨t, _, by rw [ho], hp1.trans hp2, fun _ => ⟨hR, rfl⟩⟩
end Go.Proofs.Ytcnenlmhbpijlaa
