/- Link: the law LinkWhole, walked. No condition but the reach's. -/
import Derived.Test.YtcnenlmhbpijlaaLkL
import Derived.Test.YtcnenlmhbpijlaaLkFwhole
set_option maxRecDepth 100000
set_option linter.unusedVariables false
set_option linter.unusedSimpArgs false
namespace Go.Proofs.Ytcnenlmhbpijlaa
open Go.Sh Go.RowKit

def MRow.set (o : Int) (r : MRow) : MRow := { r with m := setO o r.m }
theorem bytes_list (t : ByteArray) : True := trivial

set_option maxHeartbeats 2000000 in
theorem whole_k (w : World) (s : SV) (l : List Mod) (hl : RdSl w s l) (hL : Lim.ok l) (name : ByteArray) (hn : Lim.ok name) (sw : SV) (walk : List ByteArray) (hw : RdSl w sw walk) (_ : Lim.ok walk) :
    Calls Try.prog 3 #[.slice s.a s.len s.cap, .string name, .slice sw.a sw.len sw.cap] w fun e w' => e = .returned (.bool true) ∧ Pu w w' := by
  refine F3_calls s name sw w _ ?_
  have kn : ∀ w1, Pu w w1 → Calls Try.prog 16 #[] w1 fun e w2 => ∃ b99 : Bool, e = .returned (.bool b99) ∧ runD Try.prog [] w2 fun w3 => (Ending.returned (.bool b99) = .returned (.bool true) ∧ Pu w w3) := fun w1 hp => by
    refine Calls.mono (known_c w1) ?_
    rintro e w2 ⟨rfl, hp2⟩
    exact ⟨true, rfl, rfl, hp.trans hp2⟩
  refine Calls.mono (over_c w s l hl) ?_
  rintro e w1 ⟨b, rfl, hp1, hov⟩
  refine ⟨b, rfl, Br.of (fun _ => kn w1 hp1) (fun h1 => ?_)⟩
  have hll := hov h1
  refine Br.of (fun _ => kn w1 hp1) (fun _ => ?_)
  refine Calls.mono (heavy_c w1 sw walk (hw.pu hp1)) ?_
  rintro e w1' ⟨⟨n26, rfl⟩, rfl⟩
  refine ⟨n26, rfl, Br.of (fun _ => kn w1' hp1) (fun _ => ?_)⟩
  refine Calls.mono (loads_c w1' s l (hl.pu hp1) hL name sw walk (hw.pu hp1)) ?_
  rintro e w2 ⟨rfl, hp2⟩
  refine ⟨_, _, rfl, ?_⟩
  have hlen := hl.len
  refine loopUp l.length (fun k t w' => ∃ rows : List MRow, rows.map (·.m) = l.take k ∧ (∀ r ∈ rows, RdMod w r.m r.p r.z r.c) ∧ t.2.2 = (k : Int) ∧ Pu w w' ∧ RowAt w' 33 5 t.1 ((rows.map (MRow.set 0)).flatMap MRow.cells) ∧ RowAt w' 33 5 t.2.1 ((rows.map (MRow.set 1)).flatMap MRow.cells) ∧
      (∀ i ∈ blkOf t.1, w.heap.size ≤ i) ∧ (∀ i ∈ blkOf t.2.1, w.heap.size ≤ i) ∧ (∀ i ∈ blkOf t.1, i ∉ blkOf t.2.1))
    ⟨[], rfl, by simp, rfl, hp1.trans hp2, RowAt.nil _ _ _, RowAt.nil _ _ _, by simp [blkOf], by simp [blkOf], by simp [blkOf]⟩ ?_
  rintro k J ⟨l9, l10, t⟩ w3 hk ⟨rows, hrows, hRd, ht, hp3, hr9, hr10, hf9, hf10, hd⟩ hJ
  obtain rfl : t = (k : Int) := ht
  have hr9 : RowAt w3 33 5 l9 ((rows.map (MRow.set 0)).flatMap MRow.cells) := hr9
  have hr10 : RowAt w3 33 5 l10 ((rows.map (MRow.set 1)).flatMap MRow.cells) := hr10
  have hf9 : ∀ i ∈ blkOf l9, w.heap.size ≤ i := hf9
  have hf10 : ∀ i ∈ blkOf l10, w.heap.size ≤ i := hf10
  have hd : ∀ i ∈ blkOf l9, i ∉ blkOf l10 := hd
  dsimp only
  have hrl : rows.length = k := by have := congrArg List.length hrows; simp at this; omega
  have cellsLen : ∀ (rs : List MRow), (rs.flatMap MRow.cells).length = rs.length * 5 := fun rs => by
    induction rs with
    | nil => rfl
    | cons r rs ih => rw [List.flatMap_cons, List.length_append, ih]; simp [MRow.cells]; omega
  have h9l : l9.len = k := by have := hr9.1; rw [cellsLen] at this; simp at this; omega
  have h10l : l10.len = k := by have := hr10.1; rw [cellsLen] at this; simp at this; omega
  refine Br.of (fun hlt => ?_) (fun hge => ?_)
  · have hlt' : k < l.length := by have := dtrue hlt; omega
    obtain ⟨m, hm⟩ := at_k hlt'
    obtain ⟨a, p, z, c, ha, hi, hM, c0, c1, c2, c3, c4⟩ := modAt hl hm
    refine ⟨a, ha, by omega, by omega, m.name, by simpa using hp3.cell c0, m.ov, by simpa using hp3.cell c1, p, by simpa using hp3.cell c2, z, by simpa using hp3.cell c3, c, by simpa using hp3.cell c4, ?_⟩
    have hlt9 := hr9.lt
    have hlt10 := hr10.lt
    refine boxA (by rfl) (by kernel_rfl) (by rfl) fun w4 hp4 hs4 hb4 => ?_
    rw [add_def]
    refine st1_intro hb4 (by show 0 + 1 < 5; omega) fun w5 hw5 hb5 => ?_
    have hf5 : Fr (· = w3.heap.size) w4 w5 := by rw [hw5]; exact Fr.cell w4 _ _ _
    have hp5 : Pu w3 w5 := Pu.andNew hp4 hf5 fun i hi => by omega
    have hb5 : w5.heap[w3.heap.size]? = some (.cells #[.string m.name, .int .i64 0, .slice p.a p.len p.cap, .slice z.a z.len z.cap, .slice c.a c.len c.cap] 33) := hb5
    refine ⟨m.name, by rw [add_def, cell_blk hb5]; rfl, 0, by rw [cell_blk hb5]; rfl, p, by rw [add_def, cell_blk hb5]; rfl, z, by rw [add_def, cell_blk hb5]; rfl, c, by rw [add_def, cell_blk hb5]; rfl, ?_⟩
    refine alE_intro fun w6 hw6 => ?_
    have hp6 : Pu w5 w6 := by rw [hw6]; exact Pu.alloc w5 _
    have hn6 := alloc_new w5 (Obj.cells #[.string m.name, .int .i64 0, .slice p.a p.len p.cap, .slice z.a z.len z.cap, .slice c.a c.len c.cap] 33)
    rw [← hw6] at hn6
    have hP36 := hp5.trans hp6
    obtain ⟨l51, w7, hra, hrow7, hf7, hblk7, hlen7⟩ := row_push_mod (s := l9) (hr9.pu hP36) (a := ⟨w5.heap.size, 0, none⟩) ⟨setO 0 m, p, z, c⟩ (fun j v hv => by
      rw [add_def, cell_blk hn6, Nat.zero_add]
      simpa [MRow.cells, modV, setO] using hv) (by omega)
    refine ⟨l51, w7, hra, ?_⟩
    have hs5 := hp5.size
    have hlt5 := blk_lt hb5
    have hs6 := hp6.size
    have hb7 := hf7.blk (hp6.blk hb5) fun hx => by have := hlt9 _ hx; omega
    refine st1_intro hb7 (by show 0 + 1 < 5; omega) fun w8 hw8 hb8 => ?_
    have hf8 : Fr (· = w3.heap.size) w7 w8 := by rw [hw8]; exact Fr.cell w7 _ _ _
    have hb8 : w8.heap[w3.heap.size]? = some (.cells #[.string m.name, .int .i64 1, .slice p.a p.len p.cap, .slice z.a z.len z.cap, .slice c.a c.len c.cap] 33) := hb8
    refine ⟨m.name, by rw [add_def, cell_blk hb8]; rfl, 1, by rw [cell_blk hb8]; rfl, p, by rw [add_def, cell_blk hb8]; rfl, z, by rw [add_def, cell_blk hb8]; rfl, c, by rw [add_def, cell_blk hb8]; rfl, ?_⟩
    refine alE_intro fun w9 hw9 => ?_
    have hp9 : Pu w8 w9 := by rw [hw9]; exact Pu.alloc w8 _
    have hn9 := alloc_new w8 (Obj.cells #[.string m.name, .int .i64 1, .slice p.a p.len p.cap, .slice z.a z.len z.cap, .slice c.a c.len c.cap] 33)
    rw [← hw9] at hn9
    have hr10' : RowAt w9 33 5 l10 ((rows.map (MRow.set 1)).flatMap MRow.cells) := (((hr10.pu hP36).fr hf7 fun i hi hx => hd i hx hi).fr hf8 fun i hi hx => by have hx : i = w3.heap.size := hx; have := hlt10 i hi; omega).pu hp9
    obtain ⟨l56, w10, hrb, hrow10, hf10', hblk10, hlen10⟩ := row_push_mod (s := l10) hr10' (a := ⟨w8.heap.size, 0, none⟩) ⟨setO 1 m, p, z, c⟩ (fun j v hv => by
      rw [add_def, cell_blk hn9, Nat.zero_add]
      simpa [MRow.cells, modV, setO] using hv) (by omega)
    refine ⟨l56, w10, hrb, ?_⟩
    have hs7 := hf7.size
    have hs8 := hf8.size
    have hs9 := hp9.size
    have hP7 : Pu w w7 := Pu.andNew (hp3.trans hP36) hf7 hf9
    have hs3 := hp3.size
    have hP8 : Pu w w8 := Pu.andNew hP7 hf8 fun i hi => by omega
    have hP10 : Pu w w10 := Pu.andNew (hP8.trans hp9) hf10' hf10
    have hrow7' : RowAt w10 33 5 l51 ((rows.map (MRow.set 0)).flatMap MRow.cells ++ MRow.cells ⟨setO 0 m, p, z, c⟩) := ((hrow7.fr hf8 fun i hi hx => by
      have hx : i = w3.heap.size := hx
      rcases hblk7 i hi with h | h
      · have := hlt9 i h; omega
      · omega).pu hp9).fr hf10' fun i hi hx => by
        rcases hblk7 i hi with h | h
        · exact hd i h hx
        · have := hlt10 i hx; omega
    rw [wrap_in (by omega) (by omega)]
    refine hJ _ _ hlt' ⟨rows ++ [⟨m, p, z, c⟩], by rw [List.map_append, hrows, take_at hm]; rfl, ?_, rfl, hP10, ?_, ?_, ?_, ?_, ?_⟩
    · intro r hr
      rcases List.mem_append.1 hr with h | h
      · exact hRd r h
      · simp at h; subst h; exact hM
    · show RowAt w10 33 5 l51 _
      rw [List.map_append, List.flatMap_append]
      simp only [List.map_cons, List.map_nil, List.flatMap_cons, List.flatMap_nil, List.append_nil]
      exact hrow7'
    · show RowAt w10 33 5 l56 _
      rw [List.map_append, List.flatMap_append]
      simp only [List.map_cons, List.map_nil, List.flatMap_cons, List.flatMap_nil, List.append_nil]
      exact hrow10
    · intro i hi
      rcases hblk7 i hi with h | h
      · exact hf9 i h
      · omega
    · intro i hi
      rcases hblk10 i hi with h | h
      · exact hf10 i h
      · omega
    · intro i hi hx
      have h7 := hrow7.lt i hi
      rcases hblk10 i hx with h | h
      · rcases hblk7 i hi with h' | h'
        · exact hd i h' h
        · have := hlt10 i h; omega
      · omega
  · have hge' : ¬ k < l.length := by have := dfalse hge; omega
    rw [take_end hk hge'] at hrows
    have hR0 : RdSl w3 l9 (l.map (setO 0)) := by
      have := rd_of_mods hr9 (fun r hr => by
        obtain ⟨r', hr', rfl⟩ := List.mem_map.1 hr
        have := (hRd r' hr').pu hp3
        exact ⟨by show -9223372036854775808 ≤ (0 : Int) ∧ (0 : Int) ≤ 9223372036854775807; decide, this.procs, this.sizes, this.calls⟩) (by simp; omega)
      rw [List.map_map] at this
      rw [← hrows, List.map_map]
      exact this
    have hR1 : RdSl w3 l10 (l.map (setO 1)) := by
      have := rd_of_mods hr10 (fun r hr => by
        obtain ⟨r', hr', rfl⟩ := List.mem_map.1 hr
        have := (hRd r' hr').pu hp3
        exact ⟨by show -9223372036854775808 ≤ (1 : Int) ∧ (1 : Int) ≤ 9223372036854775807; decide, this.procs, this.sizes, this.calls⟩) (by simp; omega)
      rw [List.map_map] at this
      rw [← hrows, List.map_map]
      exact this
    have hLs : ∀ o : Int, Lim.ok (l.map (setO o)) := fun o m hm => by
      obtain ⟨m', hm', rfl⟩ := List.mem_map.1 hm
      exact hL m' hm'
    refine Calls.mono (loads_c w3 l9 _ hR0 (hLs 0) name sw walk (hw.pu hp3)) ?_
    rintro e w4 ⟨rfl, hp4⟩
    refine ⟨_, _, rfl, ?_⟩
    refine Calls.mono (loads_c w4 l10 _ (hR1.pu hp4) (hLs 1) name sw walk (hw.pu (hp3.trans hp4))) ?_
    rintro e w5 ⟨rfl, hp5⟩
    refine ⟨_, _, rfl, ?_⟩
    have hP5 := (hp3.trans hp4).trans hp5
    refine Calls.mono (validate_c w5 s l (hl.pu hP5) hL) ?_
    rintro e w6 ⟨rfl, hp6⟩
    have hP6 := hP5.trans hp6
    have last : F3_1 (fun e w' => e = .returned (.bool true) ∧ Pu w w') (loadsS (l.map (setO 0)) name walk).1 (loadsS (l.map (setO 1)) name walk).1 (loadsS (l.map (setO 1)) name walk).2 [] w6 := by
      obtain ⟨o1, o2⟩ := one_one l name walk
      refine Br.t (by rw [root_zero]; rfl) (Br.t (decide_eq_true o1) (Br.of (fun _ => kn w6 hP6) (fun h => ?_)))
      have h : (loadsS (l.map (setO 1)) name walk).2 = 0 := by simpa using h
      exact Br.t (by rw [o2 h]; rfl) (kn w6 hP6)
    refine ⟨_, rfl, Br.of (fun h => ?_) (fun _ => last)⟩
    have h : validS l = 0 := by simpa using h
    rw [err_set (by omega) (by omega) h, err_set (by omega) (by omega) h]
    exact Br.f (by simp) (Br.f (by simp) (by rw [err_set (by omega) (by omega) h] at last; exact last))
end Go.Proofs.Ytcnenlmhbpijlaa
