import Derived.Test.YtcnenlmhbpijlaaLkG
import Derived.Test.YtcnenlmhbpijlaaSkFind
/- Link: modules opened; a walk's loads. No condition but the reach's. -/
set_option maxRecDepth 100000
set_option linter.unusedVariables false
set_option linter.unusedSimpArgs false
namespace Go.Proofs.Ytcnenlmhbpijlaa
open Go.Sh Go.RowKit

theorem PL_len {l : List Mod} (h : ∀ m ∈ l, m.calls.length = m.procs.length) : (PL l).length = nprocs l := by
  have := congrArg List.length (PL_keys h)
  rw [List.length_map, allProcs_len] at this
  exact this
theorem PL_mem {l : List Mod} {q : PDat} (h : q ∈ PL l) : ∃ m ∈ l, q.1 ∈ m.procs ∧ q.2.1 = m.ov ∧ q.2.2 ∈ m.calls := by
  simp only [PL, List.mem_flatMap, rowsOf, List.mem_map] at h
  obtain ⟨m, hm, p, hp, rfl⟩ := h
  exact ⟨m, hm, (List.of_mem_zip hp).1, rfl, (List.of_mem_zip hp).2⟩

def openE (l : List Mod) : Int := if validS l = 0 then (if (missS (PL l)).length = 0 then 0 else 4) else validS l
def fromE (l : List Mod) (name : ByteArray) : Int := if openE l = 0 then (if isIn (PL l) name then 0 else 4) else openE l
theorem open_valid {l : List Mod} (h : openE l = 0) : validS l = 0 := by
  unfold openE at h
  split at h
  · assumption
  · rename_i h1; exact absurd h h1
theorem from_open {l : List Mod} {name : ByteArray} (h : fromE l name = 0) : openE l = 0 ∧ isIn (PL l) name = true := by
  unfold fromE at h
  split at h
  · rename_i h1
    split at h
    · exact ⟨h1, by assumption⟩
    · cases h
  · rename_i h1; exact absurd h h1

/-- The map of the procedures, in memory. -/
def Opened (w : World) (l : List Mod) (m : Option Nat) : Prop := ∃ b L, m = some b ∧ MapAt w ekS evP b L ∧ RdP w L (PL l)
theorem Opened.pu {w w' : World} {l : List Mod} {m : Option Nat} (h : Opened w l m) (hp : Pu w w') : Opened w' l m :=
  let ⟨b, L, h1, h2, h3⟩ := h; ⟨b, L, h1, h2.pu hp, h3.pu hp⟩

theorem open_c (w : World) (s : SV) (l : List Mod) (hl : RdSl w s l) (hL : Lim.ok l) : Calls Try.prog 62 #[.slice s.a s.len s.cap] w fun e w' => ∃ m, e = .returned (.tuple #[.map m, .int .i64 (openE l)]) ∧ Pu w w' ∧ (openE l = 0 → Opened w' l m) := by
  refine F62_calls s w _ ?_
  refine Calls.mono (validate_c w s l hl hL) ?_
  rintro e w1 ⟨rfl, hp1⟩
  refine ⟨_, rfl, Br.of (fun h1 => ?_) (fun h1 => ?_)⟩
  · have h1 : validS l ≠ 0 := by simpa using h1
    have ho : openE l = validS l := by rw [openE, if_neg h1]
    exact ⟨none, by rw [ho], hp1, fun h => absurd (ho ▸ h) h1⟩
  have h1 : validS l = 0 := by simpa using h1
  have hF := fits_of h1
  refine Calls.mono (procs_c w1 s l (hl.pu hp1) hF) ?_
  rintro e w2 ⟨b, L, rfl, hb, hM, hR, hp2⟩
  refine ⟨_, rfl, ?_⟩
  refine Calls.mono (missing_c w2 b L (PL l) hM hR (by rw [PL_len hF.callsL]; exact hF.procs) fun q hq => by
    obtain ⟨m, hm, _, _, hc⟩ := PL_mem hq
    exact hF.calls m hm _ hc) ?_
  rintro e w3 ⟨s3, rfl, hl3, _, _, hp3⟩
  refine ⟨s3, rfl, Br.of (fun h2 => ?_) (fun h2 => ?_)⟩
  · have h2 := dtrue h2
    have ho : openE l = 4 := by rw [openE, if_pos h1, if_neg (by omega)]
    exact ⟨none, by rw [ho], (hp1.trans hp2).trans hp3, fun h => by rw [ho] at h; cases h⟩
  · have h2 := dfalse h2
    have ho : openE l = 0 := by rw [openE, if_pos h1, if_pos (by omega)]
    exact ⟨some b, by rw [ho], (hp1.trans hp2).trans hp3, fun _ => ⟨b, L, rfl, hM.pu hp3, hR.pu hp3⟩⟩

theorem openFrom_c (w : World) (s : SV) (l : List Mod) (hl : RdSl w s l) (hL : Lim.ok l) (name : ByteArray) : Calls Try.prog 45 #[.slice s.a s.len s.cap, .string name] w fun e w' => ∃ m, e = .returned (.tuple #[.map m, .int .i64 (fromE l name)]) ∧ Pu w w' ∧ (fromE l name = 0 → Opened w' l m) := by
  refine F45_calls s name w _ ?_
  refine Calls.mono (open_c w s l hl hL) ?_
  rintro e w1 ⟨m, rfl, hp1, hO⟩
  refine ⟨m, _, rfl, Br.of (fun h1 => ?_) (fun h1 => ?_)⟩
  · have h1 : openE l ≠ 0 := by simpa using h1
    have ho : fromE l name = openE l := by rw [fromE, if_neg h1]
    exact ⟨none, by rw [ho], hp1, fun h => absurd (ho ▸ h) h1⟩
  have h1 : openE l = 0 := by simpa using h1
  obtain ⟨b, L, rfl, hM, hR⟩ := hO h1
  refine ⟨_, _, _, w1, (look57 hM name).1, ?_⟩
  refine boxA (by rfl) (by kernel_rfl) (by rfl) fun w2 hp2 hs2 hb2 => ?_
  rw [(hR.get name).1]
  refine Br.of (fun h2 => ?_) (fun h2 => ?_)
  · have h2 : isIn (PL l) name = false := by simpa using h2
    have ho : fromE l name = 4 := by rw [fromE, if_pos h1, h2]; rfl
    exact ⟨none, by rw [ho], hp1.trans hp2, fun h => by rw [ho] at h; cases h⟩
  · have h2 : isIn (PL l) name = true := by simpa using h2
    have ho : fromE l name = 0 := by rw [fromE, if_pos h1, if_pos h2]
    exact ⟨some b, by rw [ho], hp1.trans hp2, fun _ => ⟨b, L, rfl, hM.pu hp2, hR.pu hp2⟩⟩

/-! ### The room -/
def enterR (ov : Int) (r : Int × Int) : Int × Int := if ov = 0 then r else if ov = r.1 then r else (ov, r.2 + 1)
theorem enter_c (w : World) (r : Int × Int) (ov : Int) (h0 : 0 ≤ r.2) (h1 : r.2 ≤ 1000000000) : Calls Try.prog 46 #[.agg #[.int .i64 r.1, .int .i64 r.2], .int .i64 ov] w fun e w' => e = .returned (.agg #[.int .i64 (enterR ov r).1, .int .i64 (enterR ov r).2]) ∧ Pu w w' := by
  refine F46_calls _ _ _ w _ ?_
  refine alE_intro fun w1 hw1 => alE_intro fun w2 hw2 => ?_
  have hp1 : Pu w w1 := by rw [hw1]; exact Pu.alloc w _
  have hp2 : Pu w1 w2 := by rw [hw2]; exact Pu.alloc w1 _
  have hb1 : w2.heap[w.heap.size]? = some (.cells #[.int .i64 r.1, .int .i64 r.2] 61) := hp2.blk (by rw [hw1]; exact alloc_new w _)
  have hb2 : w2.heap[w1.heap.size]? = some (.cells #[.int .i64 0, .int .i64 0] 61) := by rw [hw2]; exact alloc_new w1 _
  have hs1 : w1.heap.size = w.heap.size + 1 := by rw [hw1]; simp
  have same : enterR ov r = r → ∃ n13_0 : Int, w2.cell? ((⟨w.heap.size, 0, none⟩ : Addr).add 0) = some (.int .i64 n13_0) ∧ ∃ n13_1 : Int, w2.cell? ((⟨w.heap.size, 0, none⟩ : Addr).add 1) = some (.int .i64 n13_1) ∧
      stA Try.prog 61 (⟨w1.heap.size, 0, none⟩ : Addr) #[.int .i64 n13_0, .int .i64 n13_1] w2 fun w3 => runD Try.prog [] w3 fun w4 => ∃ nR0_0 : Int, w4.cell? ((⟨w1.heap.size, 0, none⟩ : Addr).add 0) = some (.int .i64 nR0_0) ∧
        ∃ nR0_1 : Int, w4.cell? ((⟨w1.heap.size, 0, none⟩ : Addr).add 1) = some (.int .i64 nR0_1) ∧ (Ending.returned (.agg #[.int .i64 nR0_0, .int .i64 nR0_1]) = .returned (.agg #[.int .i64 (enterR ov r).1, .int .i64 (enterR ov r).2]) ∧ Pu w w4) := fun he => by
    refine ⟨r.1, by rw [add_def, cell_blk hb1]; rfl, r.2, by rw [add_def, cell_blk hb1]; rfl, ?_⟩
    refine stA_fill hb2 (by kernel_rfl) rfl rfl fun w3 hb3 hf3 hs3 => ?_
    exact ⟨r.1, by rw [add_def, cell_blk hb3]; rfl, r.2, by rw [add_def, cell_blk hb3]; rfl, by rw [he], Pu.andNew (hp1.trans hp2) hf3 fun i hi => by omega⟩
  refine Br.of (fun h1 => ?_) (fun h1 => ?_)
  · have h1 : ov = 0 := by simpa using h1
    exact same (by rw [enterR, if_pos h1])
  have h1 : ov ≠ 0 := by simpa using h1
  refine ⟨r.1, by rw [cell_blk hb1]; rfl, Br.of (fun h2 => ?_) (fun h2 => ?_)⟩
  · have h2 : ov = r.1 := by simpa using h2
    exact same (by rw [enterR, if_neg h1, if_pos h2])
  have h2 : ov ≠ r.1 := by simpa using h2
  refine ⟨r.2, by rw [add_def, cell_blk hb1]; rfl, ?_⟩
  rw [wrap_in (by omega) (by omega)]
  refine stA_fill hb2 (by kernel_rfl) rfl rfl fun w3 hb3 hf3 hs3 => ?_
  refine ⟨ov, by rw [add_def, cell_blk hb3]; rfl, r.2 + 1, by rw [add_def, cell_blk hb3]; rfl, ?_, Pu.andNew (hp1.trans hp2) hf3 fun i hi => by omega⟩
  rw [enterR, if_neg h1, if_neg h2]

/-! ### Is it in a list? -/
def has (l : List ByteArray) (x : ByteArray) : Bool := l.any fun y => decide (y = x)
theorem has_iff {l : List ByteArray} {x : ByteArray} : has l x = true ↔ x ∈ l := by
  simp [has]
theorem contains_c (w : World) (s : SV) (l : List ByteArray) (hl : RdSl w s l) (x : ByteArray) : Calls Try.prog 47 #[.slice s.a s.len s.cap, .string x] w fun e w' => e = .returned (.bool (has l x)) ∧ Pu w w' := by
  cases l with
  | nil =>
    have h0 : s.len = 0 := hl.len
    rw [h0]
    refine Calls.mono (Try.slices_Contains_string_empty s.a s.cap x w) ?_
    rintro e w' ⟨rfl, rfl⟩
    exact ⟨rfl, Pu.refl _⟩
  | cons y r =>
    obtain ⟨⟨b, off, sp⟩, ha, _, hc0⟩ := hl.str (i := 0) (x := y) rfl
    obtain rfl : sp = none := by
      have := World.cell?_spot hc0
      simpa [Addr.add] using this
    have hcs : ∀ j, j < (y :: r).length → w.cell? ⟨b, off + j, none⟩ = some (.string ((y :: r).getD j ByteArray.empty)) := fun j hj => by
      obtain ⟨a', ha', _, hcell⟩ := hl.str (List.getElem?_eq_getElem hj)
      rw [ha] at ha'
      cases ha'
      rw [Nat.mul_one, add_def] at hcell
      rw [hcell, List.getD, List.getElem?_eq_getElem hj]; rfl
    have hn := hl.len
    have hlim := hl.lim
    rw [ha]
    refine Calls.mono (Try.slices_Contains_string b off s.len s.cap (y :: r) x w (by omega) (by omega) hcs) ?_
    rintro e w' ⟨rfl, rfl⟩
    refine ⟨?_, Pu.refl _⟩
    rw [hn, List.take_length]
    congr 2
    by_cases h : x ∈ (y :: r)
    · rw [has_iff.2 h]; exact (Lib.containsS_iff _ _).2 h
    · have h2 : has (y :: r) x = false := by rw [← Bool.not_eq_true]; exact fun h' => h (has_iff.1 h')
      rw [h2, ← Bool.not_eq_true]; exact fun h' => h ((Lib.containsS_iff _ _).1 h')
end Go.Proofs.Ytcnenlmhbpijlaa
