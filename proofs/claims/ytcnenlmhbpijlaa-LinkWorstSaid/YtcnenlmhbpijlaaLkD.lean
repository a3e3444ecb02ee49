import Derived.Test.YtcnenlmhbpijlaaLkB
import Derived.Test.YtcnenlmhbpijlaaLkC
import Derived.Test.YtcnenlmhbpijlaaShNineteen
/- Link: which modules are right: Validate. No condition but the reach's. -/
set_option maxRecDepth 100000
set_option linter.unusedVariables false
set_option linter.unusedSimpArgs false
namespace Go.Proofs.Ytcnenlmhbpijlaa
open Go.Sh Go.RowKit

theorem u23 : Try.prog.underlying 23 = some (.slice 9) := by kernel_rfl

theorem isTwice_c (w : World) (s : SV) (l : List ByteArray) (hl : RdSl w s l) (hN : l.length ≤ 8796093022208) : Calls Try.prog 50 #[.slice s.a s.len s.cap] w fun e w' => e = .returned (.bool (!decide l.Nodup)) ∧ Pu w w' := by
  refine F50_calls s w _ ?_
  refine setCount_c w s l hl hN fun s' w' h1 h2 h3 h4 => ⟨s', rfl, ?_, h4⟩
  rw [h1, hl.len, ← setS_len]
  congr 2
  by_cases h : (setS l).length < l.length
  · rw [decide_eq_true h]; exact decide_eq_true (by omega)
  · rw [decide_eq_false h]; exact decide_eq_false (by omega)

theorem large_bounds {l : List Mod} (h : largeB l = false) : l.length ≤ 32 ∧ nprocs l ≤ 100 ∧ ∀ m ∈ l, ∀ c ∈ m.calls, c.length ≤ 100 := by
  simp only [largeB, Bool.or_eq_false_iff, decide_eq_false_iff_not, List.any_eq_false, decide_eq_true_eq] at h
  obtain ⟨⟨h1, h2⟩, h3⟩ := h
  refine ⟨by omega, by omega, fun m hm c hc => ?_⟩
  have := h1 m hm
  simp only [List.any_eq_true, not_exists, not_and, decide_eq_true_eq] at this
  have := this c hc
  omega
theorem nprocs_le {l : List Mod} {k : Nat} : nprocs (l.take k) ≤ nprocs l := by
  unfold nprocs
  rw [List.map_take]
  generalize l.map (·.procs.length) = L
  have := List.take_append_drop k L
  have h2 : (L.take k ++ L.drop k).sum = L.sum := by rw [this]
  rw [List.sum_append] at h2
  omega
theorem allProcs_len (l : List Mod) : (allProcs l).length = nprocs l := by simp [allProcs, nprocs, List.length_flatMap]
theorem allProcs_take {l : List Mod} {k : Nat} {m : Mod} (h : l[k]? = some m) : allProcs (l.take (k + 1)) = allProcs (l.take k) ++ m.procs := by rw [take_at h]; simp [allProcs]
theorem all_take {α : Type} {p : α → Bool} {l : List α} {k : Nat} {x : α} (h : l[k]? = some x) : (l.take (k + 1)).all p = ((l.take k).all p && p x) := by rw [take_at h]; simp
theorem not_all_of {α : Type} {p : α → Bool} {l : List α} {k : Nat} {x : α} (h : l[k]? = some x) (hp : p x = false) : l.all p = false := by
  rw [← Bool.not_eq_true, List.all_eq_true]
  intro h2
  have := h2 x (List.mem_of_getElem? h)
  rw [hp] at this; cases this

set_option maxHeartbeats 1000000 in
theorem validate_c (w : World) (s : SV) (l : List Mod) (hl : RdSl w s l) (hL : Lim.ok l) : Calls Try.prog 18 #[.slice s.a s.len s.cap] w fun e w' => e = .returned (.int .i64 (validS l)) ∧ Pu w w' := by
  refine F18_calls s w _ ?_
  refine Calls.mono (isLarge_c w s l hl) ?_
  rintro e w1 ⟨rfl, hp1⟩
  refine ⟨_, rfl, Br.of (fun h1 => ⟨by simp [validS, h1], hp1⟩) (fun h1 => ?_)⟩
  obtain ⟨b1, b2, b3⟩ := large_bounds h1
  have hlen := hl.len
  refine loopUp l.length (fun k t w' => Pu w w' ∧ t.2.2.2 = (k : Int) ∧ RowAt w' 9 1 t.1 (strV ((l.take k).map (·.name))) ∧ RowAt w' 9 1 t.2.1 (strV (allProcs (l.take k))) ∧ (∀ b ∈ blkOf t.1, w.heap.size ≤ b) ∧ (∀ b ∈ blkOf t.2.1, w.heap.size ≤ b) ∧ (∀ b ∈ blkOf t.1, b ∉ blkOf t.2.1) ∧
      t.2.2.1 = (l.take k).all fitB ∧ (l.take k).all rightB = true)
    ⟨hp1, rfl, RowAt.nil _ _ _, RowAt.nil _ _ _, fun b hb => by simp [blkOf] at hb, fun b hb => by simp [blkOf] at hb, fun b hb => by simp [blkOf] at hb, rfl, rfl⟩ ?_
  rintro k J ⟨l3, l4, b5, t⟩ w2 hk ⟨hp, ht, hr3, hr4, hf3, hf4, hd, hb5, hall⟩ hJ
  have ht : t = (k : Int) := ht
  have hr3 : RowAt w2 9 1 l3 (strV ((l.take k).map (·.name))) := hr3
  have hr4 : RowAt w2 9 1 l4 (strV (allProcs (l.take k))) := hr4
  have hf3 : ∀ b ∈ blkOf l3, w.heap.size ≤ b := hf3
  have hf4 : ∀ b ∈ blkOf l4, w.heap.size ≤ b := hf4
  have hd : ∀ b ∈ blkOf l3, b ∉ blkOf l4 := hd
  have hb5 : b5 = (l.take k).all fitB := hb5
  subst ht
  have hl3 : l3.len = min k l.length := by have := hr3.1; simp at this; omega
  have hl4 : l4.len = nprocs (l.take k) := by have := hr4.1; simp [allProcs_len] at this; omega
  have hnp : nprocs (l.take k) ≤ 100 := Nat.le_trans nprocs_le b2
  refine Br.of (fun hlt => ?_) (fun hge => ?_)
  · have hlt' : k < l.length := by have := dtrue hlt; omega
    obtain ⟨m, hm⟩ := at_k hlt'
    obtain ⟨a, p, z, c, ha, hi, hM, c0, c1, c2, c3, c4⟩ := modAt hl hm
    refine ⟨a, ha, by omega, by omega, m.name, by simpa using hp.cell c0, m.ov, by simpa using hp.cell c1, p, by simpa using hp.cell c2, z, by simpa using hp.cell c3, c, by simpa using hp.cell c4, ?_⟩
    refine boxA (by rfl) (by kernel_rfl) (by rfl) fun w3 hp3 hs3 hb3 => ?_
    have hM3 := hM.pu (hp.trans hp3)
    refine ⟨m.name, by rw [add_def, cell_blk hb3]; rfl, m.ov, by rw [add_def, cell_blk hb3]; rfl, p, by rw [add_def, cell_blk hb3]; rfl, z, by rw [add_def, cell_blk hb3]; rfl, c, by rw [add_def, cell_blk hb3]; rfl, ?_⟩
    refine Calls.mono (isRight_c w3 m p z c hM3 (hL m (List.mem_of_getElem? hm))) ?_
    rintro e w4 ⟨rfl, hp4⟩
    have hb4 := hp4.blk hb3
    have hP4 : Pu w w4 := (hp.trans hp3).trans hp4
    refine ⟨_, rfl, Br.of (fun h2 => ?_) (fun h2 => ?_)⟩
    · have h2 : rightB m = false := by simpa using h2
      refine ⟨?_, hP4⟩
      simp [validS, h1, not_all_of hm h2]
    have h2 : rightB m = true := by simpa using h2
    refine dwE_intro fun w5 hp5 hh5 => ?_
    refine ⟨fun v => v.heap[w2.heap.size]? = some (.cells #[.string m.name, .int .i64 m.ov, .slice p.a p.len p.cap, .slice z.a z.len z.cap, .slice c.a c.len c.cap] 33), hp5.blk hb4, m.name, fun v hv => by rw [cell_blk hv]; rfl, p, fun v hv => by rw [add_def, cell_blk hv]; rfl, ?_⟩
    have hb5' := hp5.blk hb4
    refine alE_intro fun w6 hw6 => ?_
    have hp6 : Pu w5 w6 := by rw [hw6]; exact Pu.alloc w5 _
    have hn6 : w6.heap[w5.heap.size]? = some (.cells #[.string m.name] 9) := by rw [hw6]; exact alloc_new w5 _
    have hb6 := hp6.blk hb5'
    refine ⟨hb6, ?_⟩
    have hP26 : Pu w2 w6 := ((hp3.trans hp4).trans hp5).trans hp6
    have hr3' := hr3.pu hP26
    have hr4' := hr4.pu hP26
    have hlt3 := hr3.lt
    have hlt4 := hr4.lt
    obtain ⟨l23, w7, hra, hrow3, hf7, hblk7, hlen7⟩ := row_push (P := Try.prog) (ty := 23) (t := 23) u23 info_str rfl (s := l3) hr3' (a := ⟨w5.heap.size, 0, none⟩) (u := .string m.name) (by rw [cell_blk hn6]; rfl) rfl (by omega)
    refine ⟨l23, w7, hra, ?_⟩
    have hs26 := hP26.size
    have hb7 := hf7.blk hb6 fun hx => by have := hlt3 _ hx; omega
    refine ⟨hb7, ?_⟩
    have hr4'' := hr4'.fr hf7 fun b hb hx => hd b hx hb
    have hP7 : Pu w w7 := Pu.andNew (hp.trans hP26) hf7 hf3
    obtain ⟨l27, w8, hrb, hrow4, hf8, hblk8, hlen8⟩ := row_append_strs (P := Try.prog) (ty := 23) (t := 23) u23 info_str (s := l4) hr4'' (hM.procs.pu hP7) (by have := hM.procs.len; have := nprocs_take hm; have := nprocs_le (l := l) (k := k + 1); omega)
    refine ⟨l27, w8, hrb, ?_⟩
    have hb8 := hf8.blk hb7 fun hx => by have := hlt4 _ hx; omega
    have hP8 : Pu w w8 := Pu.andNew hP7 hf8 hf4
    have hrow3' := hrow3.fr hf8 fun b hb hx => by
      rcases hblk7 b hb with h | h
      · exact hd b h hx
      · have := hlt4 b hx; omega
    have step : ∀ b, b = ((l.take k).all fitB && fitB m) → J (l23, l27, b, IntKind.i64.wrap ((k : Int) + 1)) w8 := fun b hb => by
      rw [wrap_in (by omega) (by omega)]
      refine hJ _ _ hlt' ⟨hP8, rfl, ?_, ?_, ?_, ?_, ?_, ?_, ?_⟩
      · show RowAt w8 9 1 l23 _
        rw [take_at hm]; simpa [strV] using hrow3'
      · show RowAt w8 9 1 l27 _
        rw [allProcs_take hm]; simpa [strV] using hrow4
      · intro i hi
        rcases hblk7 i hi with h | h
        · exact hf3 i h
        · have := hp.size; omega
      · intro i hi
        rcases hblk8 i hi with h | h
        · exact hf4 i h
        · have := hP7.size; omega
      · intro i hi hx
        have h7 := hf7.size
        rcases hblk8 i hx with h | h
        · rcases hblk7 i hi with h' | h'
          · exact hd i h' h
          · have := hlt4 i h; omega
        · have := hrow3.lt i hi; omega
      · show b = _
        rw [all_take hm]; exact hb
      · rw [all_take hm, hall, h2]; rfl
    have hpl := hM.procs.len
    have hzl := hM.sizes.len
    have hcl := hM.calls.len
    refine Br.of (fun h3 => ?_) (fun h3 => ?_)
    · rw [h3] at hb5
      refine ⟨z, by rw [add_def, cell_blk hb8]; rfl, p, by rw [add_def, cell_blk hb8]; rfl, Br.of (fun h4 => ?_) (fun h4 => ?_)⟩
      · have h4 : z.len = p.len := by
          have : ((z.len : Nat) : Int) = ((p.len : Nat) : Int) := by simpa using h4
          omega
        refine ⟨c, by rw [add_def, cell_blk hb8]; rfl, p, by rw [add_def, cell_blk hb8]; rfl, ?_⟩
        refine step _ ?_
        rw [← hb5, Bool.true_and]
        have : m.sizes.length = m.procs.length := by omega
        simp only [fitB, this, decide_true, Bool.true_and]
        rw [hcl, hpl]
        by_cases h5 : m.calls.length = m.procs.length
        · simp [h5]
        · have : ¬ ((m.calls.length : Nat) : Int) = ((m.procs.length : Nat) : Int) := by omega
          simp [h5, this]
      · have h4 : ¬ z.len = p.len := by
          have : ¬ ((z.len : Nat) : Int) = ((p.len : Nat) : Int) := by simpa using h4
          omega
        refine step _ ?_
        have : ¬ m.sizes.length = m.procs.length := by omega
        simp [fitB, this]
    · rw [h3] at hb5
      exact step _ (by rw [← hb5]; rfl)
  · have hge' : ¬ k < l.length := by have := dfalse hge; omega
    rw [take_end hk hge'] at hr3 hr4 hb5 hall
    refine Br.of (fun h2 => ?_) (fun h2 => ?_)
    · have h2 : b5 = false := by simpa using h2
      rw [h2] at hb5
      exact ⟨by simp [validS, h1, hall, ← hb5], hp⟩
    · have h2 : b5 = true := by simpa using h2
      rw [h2] at hb5
      refine Calls.mono (isTwice_c w2 l3 _ (rd_of_row hr3 (by simp; omega)) (by simp; omega)) ?_
      rintro e w3 ⟨rfl, hp3⟩
      refine ⟨_, rfl, Br.of (fun h3 => ?_) (fun h3 => ?_)⟩
      · refine ⟨?_, hp.trans hp3⟩
        have h3 : ¬ (l.map (·.name)).Nodup := by simpa using h3
        simp [validS, h1, hall, ← hb5, h3]
      · have h3 : (l.map (·.name)).Nodup := by simpa using h3
        refine Calls.mono (isTwice_c w3 l4 _ (rd_of_row (hr4.pu hp3) (by rw [allProcs_len]; omega)) (by rw [allProcs_len]; omega)) ?_
        rintro e w4 ⟨rfl, hp4⟩
        refine ⟨_, rfl, Br.of (fun h4 => ?_) (fun h4 => ?_)⟩
        · refine ⟨?_, (hp.trans hp3).trans hp4⟩
          have h4 : ¬ (allProcs l).Nodup := by simpa using h4
          simp [validS, h1, hall, ← hb5, h3, h4]
        · refine ⟨?_, (hp.trans hp3).trans hp4⟩
          have h4 : (allProcs l).Nodup := by simpa using h4
          simp [validS, h1, hall, ← hb5, h3, h4]
end Go.Proofs.Ytcnenlmhbpijlaa
