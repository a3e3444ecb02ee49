/- Link: the program's Move, the reference's, and the law LinkMoves. No condition but the reach's. -/
import Derived.Test.YtcnenlmhbpijlaaLkClone
import Derived.Test.YtcnenlmhbpijlaaLkL
set_option maxRecDepth 100000
set_option linter.unusedVariables false
set_option linter.unusedSimpArgs false
namespace Go.Proofs.Ytcnenlmhbpijlaa
open Go.Sh Go.RowKit

def mv (name : ByteArray) (o : Int) (m : Mod) : Mod := if m.name = name then setO o m else m
def moveS (l : List Mod) (name : ByteArray) (o : Int) : List Mod × Int :=
  if validS l ≠ 0 then ([], validS l) else if o < 0 ∨ 15 < o then ([], 1) else if l.any (fun m => decide (m.name = name)) then (l.map (mv name o), 0) else ([], 4)

theorem mflat_len : ∀ rows : List MRow, (rows.flatMap MRow.cells).length = rows.length * 5
  | [] => rfl
  | r :: rs => by rw [List.flatMap_cons, List.length_append, mflat_len rs]; simp [MRow.cells]; omega
theorem small_of {l : List Mod} (hF : Fits l) {m : Mod} (h : m ∈ l) : m.procs.length ≤ 1000000 ∧ m.sizes.length ≤ 1000000 ∧ m.calls.length ≤ 1000000 ∧ ∀ x ∈ m.calls, x.length ≤ 1000000 := by
  have h1 := procs_le h
  have h2 := hF.procs
  have h3 := hF.sizes m h
  have h4 := hF.callsL m h
  exact ⟨by omega, by omega, by omega, fun x hx => by have := hF.calls m h x hx; omega⟩

set_option maxHeartbeats 2000000 in
theorem move_c (w : World) (s : SV) (l : List Mod) (hl : RdSl w s l) (hL : Lim.ok l) (name : ByteArray) (o : Int) : Calls Try.prog 34 #[.slice s.a s.len s.cap, .string name, .int .i64 o] w fun e w' => ∃ t : SV, e = .returned (.tuple #[.slice t.a t.len t.cap, .int .i64 (moveS l name o).2]) ∧ RdSl w' t (moveS l name o).1 ∧ Pu w w' := by
  refine F34_calls s name o w _ ?_
  refine Calls.mono (validate_c w s l hl hL) ?_
  rintro e w1 ⟨rfl, hp1⟩
  refine ⟨_, rfl, Br.of (fun h1 => ?_) (fun h1 => ?_)⟩
  · have h1 : validS l ≠ 0 := by simpa using h1
    exact ⟨⟨none, 0, 0⟩, by rw [moveS, if_pos h1], by rw [moveS, if_pos h1]; exact RdSl.nil w1 none 0, hp1⟩
  have h1 : validS l = 0 := by simpa using h1
  have hF := fits_of h1
  refine Br.of (fun h2 => ?_) (fun h2 => ?_)
  · have h2 := dtrue h2
    exact ⟨⟨none, 0, 0⟩, by rw [moveS, if_neg (by omega), if_pos (by omega)], by rw [moveS, if_neg (by omega), if_pos (by omega)]; exact RdSl.nil w1 none 0, hp1⟩
  have h2 := dfalse h2
  refine Br.of (fun h3 => ?_) (fun h3 => ?_)
  · have h3 := dtrue h3
    exact ⟨⟨none, 0, 0⟩, by rw [moveS, if_neg (by omega), if_pos (by omega)], by rw [moveS, if_neg (by omega), if_pos (by omega)]; exact RdSl.nil w1 none 0, hp1⟩
  have h3 := dfalse h3
  have hlen := hl.len
  have hl32 := hF.len
  refine loopUp l.length (fun k t w' => Pu w1 w' ∧ t.1 = ((l.take k).any fun m => decide (m.name = name)) ∧ t.2.2 = (k : Int) ∧ (∀ i ∈ blkOf t.2.1, w1.heap.size ≤ i) ∧ ∃ rows : List MRow, rows.map (·.m) = (l.take k).map (mv name o) ∧ RowAt w' 33 5 t.2.1 (rows.flatMap MRow.cells) ∧ ∀ r ∈ rows, OwnMod w' r.m r.p r.z r.c fun i => i ∉ blkOf t.2.1)
    ⟨Pu.refl w1, by simp, rfl, by simp [blkOf], [], by simp, RowAt.nil _ _ _, by simp⟩ ?_
  rintro k J ⟨b9, l10, t⟩ w2 hk ⟨hp2, hb9, ht, hf10, rows, hrows, hrow, hown⟩ hJ
  obtain rfl : t = (k : Int) := ht
  have hb9 : b9 = ((l.take k).any fun m => decide (m.name = name)) := hb9
  have hf10 : ∀ i ∈ blkOf l10, w1.heap.size ≤ i := hf10
  have hrow : RowAt w2 33 5 l10 (rows.flatMap MRow.cells) := hrow
  have hown : ∀ r ∈ rows, OwnMod w2 r.m r.p r.z r.c fun i => i ∉ blkOf l10 := hown
  dsimp only
  have hrl : rows.length = k := by have := congrArg List.length hrows; simp at this; omega
  have hl10 : l10.len = k := by
    have := hrow.1
    have e := mflat_len rows
    omega
  refine Br.of (fun hlt => ?_) (fun hge => ?_)
  · have hlt' : k < l.length := by have := dtrue hlt; omega
    obtain ⟨m, hm⟩ := at_k hlt'
    have hmem := List.mem_of_getElem? hm
    have hP2 := hp1.trans hp2
    obtain ⟨a, p, z, c, ha, hi, hM, c0, c1, c2, c3, c4⟩ := modAt (hl.pu hP2) hm
    refine ⟨a, ha, by omega, by omega, m.name, by simpa using c0, m.ov, by simpa using c1, p, by simpa using c2, z, by simpa using c3, c, by simpa using c4, ?_⟩
    refine boxA (by rfl) (by kernel_rfl) (by rfl) fun w3 hp3 hs3 hb3 => ?_
    refine ⟨m.name, by rw [add_def, cell_blk hb3]; rfl, m.ov, by rw [add_def, cell_blk hb3]; rfl, p, by rw [add_def, cell_blk hb3]; rfl, z, by rw [add_def, cell_blk hb3]; rfl, c, by rw [add_def, cell_blk hb3]; rfl, ?_⟩
    refine Calls.mono (cloned_c w3 m p z c (hM.pu hp3) (small_of hF hmem)) ?_
    rintro e w4 ⟨p', z', c', rfl, hO, hp4⟩
    refine ⟨m.name, m.ov, p', z', c', rfl, ?_⟩
    refine boxA (by rfl) (by kernel_rfl) (by rfl) fun w5 hp5 hs5 hb5 => ?_
    have hb3' := hp5.blk (hp4.blk hb3)
    have hP25 := (hp3.trans hp4).trans hp5
    have hs4 := hp4.size
    have hlt10 := hrow.lt
    have hov := (hF.right m hmem)
    refine ⟨m.name, by rw [cell_blk hb3']; rfl, ?_⟩
    rw [beq_bytes']
    -- behind the overlay
    have tail : ∀ (w6 : World) (n : Int) (b' : Bool), Pu w2 w6 → OwnMod w6 (setO n m) p' z' c' (fun i => w3.heap.size ≤ i) → w6.heap[w4.heap.size]? = some (.cells #[.string m.name, .int .i64 n, .slice p'.a p'.len p'.cap, .slice z'.a z'.len z'.cap, .slice c'.a c'.len c'.cap] 33) →
        setO n m = mv name o m → b' = ((l.take (k + 1)).any fun m => decide (m.name = name)) → ∃ s40_0 : ByteArray, w6.cell? ((⟨w4.heap.size, 0, none⟩ : Addr).add 0) = some (.string s40_0) ∧ ∃ n40_1 : Int, w6.cell? ((⟨w4.heap.size, 0, none⟩ : Addr).add 1) = some (.int .i64 n40_1) ∧
          ∃ l40_2 : SV, w6.cell? ((⟨w4.heap.size, 0, none⟩ : Addr).add 2) = some (.slice l40_2.a l40_2.len l40_2.cap) ∧ ∃ l40_3 : SV, w6.cell? ((⟨w4.heap.size, 0, none⟩ : Addr).add 3) = some (.slice l40_3.a l40_3.len l40_3.cap) ∧ ∃ l40_4 : SV, w6.cell? ((⟨w4.heap.size, 0, none⟩ : Addr).add 4) = some (.slice l40_4.a l40_4.len l40_4.cap) ∧
          alE (.cells #[.string s40_0, .int .i64 n40_1, .slice l40_2.a l40_2.len l40_2.cap, .slice l40_3.a l40_3.len l40_3.cap, .slice l40_4.a l40_4.len l40_4.cap] 33) w6 fun r41 w10 => ∃ l42 : SV, ∃ w11 : World, (Builtin.append_ #[22, 22] 22 #[.slice l10.a l10.len l10.cap, .slice (some ⟨r41, 0, none⟩) 1 1]).run Try.prog w10 = .ok (.slice l42.a l42.len l42.cap) w11 ∧ J (b', l42, (IntKind.i64.wrap ((k : Int) + 1))) w11 := fun w6 n b' hp6 hO6 hb6 he hb' => by
      refine ⟨m.name, by rw [add_def, cell_blk hb6]; rfl, n, by rw [add_def, cell_blk hb6]; rfl, p', by rw [add_def, cell_blk hb6]; rfl, z', by rw [add_def, cell_blk hb6]; rfl, c', by rw [add_def, cell_blk hb6]; rfl, ?_⟩
      refine alE_intro fun w7 hw7 => ?_
      have hp7 : Pu w6 w7 := by rw [hw7]; exact Pu.alloc w6 _
      have hn7 : w7.heap[w6.heap.size]? = some (.cells #[.string m.name, .int .i64 n, .slice p'.a p'.len p'.cap, .slice z'.a z'.len z'.cap, .slice c'.a c'.len c'.cap] 33) := by rw [hw7]; exact alloc_new w6 _
      have hs6 := hp6.size
      have hs7 := hp7.size
      obtain ⟨l42, w8, hra, hrow8, hf8, hblk8, hlen8⟩ := row_push_mod (s := l10) ((hrow.pu hp6).pu hp7) (a := ⟨w6.heap.size, 0, none⟩) ⟨setO n m, p', z', c'⟩ (fun j v hv => by
        rw [add_def, cell_blk hn7, Nat.zero_add]
        simpa [MRow.cells, modV, setO] using hv) (by omega)
      refine ⟨l42, w8, hra, ?_⟩
      rw [wrap_in (n := (k : Int) + 1) (by omega) (by omega)]
      have hs12 := hp2.size
      refine hJ _ _ hlt' ⟨Pu.andNew ((hp2.trans hp6).trans hp7) hf8 hf10, hb', rfl, fun i hi => ?_, rows ++ [⟨setO n m, p', z', c'⟩], ?_, ?_, fun r hr => ?_⟩
      · rcases hblk8 i hi with h | h
        · exact hf10 i h
        · omega
      · rw [List.map_append, hrows, take_at hm, List.map_append, List.map_cons, List.map_cons, List.map_nil, List.map_nil, ← he]
      · show RowAt w8 33 5 l42 _
        rw [List.flatMap_append]
        simpa using hrow8
      · show OwnMod w8 r.m r.p r.z r.c fun i => i ∉ blkOf l42
        have fresh : ∀ i, i ∈ blkOf l42 → i ∈ blkOf l10 ∨ w7.heap.size ≤ i := hblk8
        rcases List.mem_append.1 hr with h | h
        · have g := ((hown r h).pu (hp6.trans hp7)).mono (Q' := fun i => i ∉ blkOf l10 ∧ i < w7.heap.size) fun i hi hi2 => ⟨hi, hi2⟩
          exact (g.fr hf8 fun i hi h => hi.1 h).mono fun i hi _ h => by
            rcases fresh i h with h' | h'
            · exact hi.1 h'
            · omega
        · simp at h; subst h
          have g := (hO6.pu hp7).mono (Q' := fun i => w3.heap.size ≤ i ∧ i < w7.heap.size) fun i hi hi2 => ⟨hi, hi2⟩
          have hs3' := hp3.size
          exact (g.fr hf8 fun i hi h => by have := hlt10 i h; omega).mono fun i hi _ h => by
            rcases fresh i h with h' | h'
            · have := hlt10 i h'; omega
            · omega
    have hO5 := hO.pu hp5
    refine Br.of (fun h4 => ?_) (fun h4 => ?_)
    · have h4 : m.name = name := by simpa using h4
      refine st1_intro hb5 (by show 0 + 1 < 5; omega) fun w6 hw6 hb6 => ?_
      have hf6 : Fr (· = w4.heap.size) w5 w6 := by rw [hw6]; exact Fr.cell w5 _ _ _
      have hb6 : w6.heap[w4.heap.size]? = some (.cells #[.string m.name, .int .i64 o, .slice p'.a p'.len p'.cap, .slice z'.a z'.len z'.cap, .slice c'.a c'.len c'.cap] 33) := hb6
      have g := (hO.mono (Q' := fun i => w3.heap.size ≤ i ∧ i < w4.heap.size) fun i hi hi2 => ⟨hi, hi2⟩).pu hp5
      have g := (g.fr hf6 fun i hi h => by have h : i = _ := h; omega).mono (Q' := fun i => w3.heap.size ≤ i) fun i hi _ => hi.1
      have hs3' := hp3.size
      exact tail w6 o true (Pu.andNew hP25 hf6 fun i hi => by have hi : i = _ := hi; omega) ⟨by show -9223372036854775808 ≤ o ∧ o ≤ _; omega, g.szs, g.small, g.procs, g.sizes, g.calls⟩ hb6 (by rw [mv, if_pos h4]) (by rw [take_at hm, List.any_append]; simp [h4])
    · have h4 : m.name ≠ name := by simpa using h4
      have e : setO m.ov m = m := rfl
      exact tail w5 m.ov b9 hP25 (by rw [e]; exact hO5) hb5 (by rw [mv, if_neg h4]; rfl) (by rw [take_at hm, List.any_append, hb9]; simp [h4])
  · have hge' : ¬ k < l.length := by have := dfalse hge; omega
    rw [take_end hk hge'] at hb9 hrows
    refine Br.of (fun h4 => ?_) (fun h4 => ?_)
    · have h4 : b9 = false := by simpa using h4
      rw [h4] at hb9
      refine ⟨⟨none, 0, 0⟩, ?_, ?_, hp1.trans hp2⟩
      · rw [moveS, if_neg (by omega), if_neg (by omega), ← hb9]; rfl
      · rw [moveS, if_neg (by omega), if_neg (by omega), ← hb9]; exact RdSl.nil w2 none 0
    · have h4 : b9 = true := by simpa using h4
      rw [h4] at hb9
      have hR := rd_of_mods hrow (fun r hr => (hown r hr).rd) (by omega)
      rw [hrows] at hR
      refine ⟨l10, ?_, ?_, hp1.trans hp2⟩
      · rw [moveS, if_neg (by omega), if_neg (by omega), ← hb9]; rfl
      · rw [moveS, if_neg (by omega), if_neg (by omega), ← hb9]; exact hR
end Go.Proofs.Ytcnenlmhbpijlaa
