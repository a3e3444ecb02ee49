import Derived.Test.YtcnenlmhbpijlaaLkWorstAll
import Derived.Test.YtcnenlmhbpijlaaLkK
/- Link: Worst, and the law LinkBound, walked. No condition but the reach's. -/
set_option maxRecDepth 100000
set_option linter.unusedVariables false
set_option linter.unusedSimpArgs false
namespace Go.Proofs.Ytcnenlmhbpijlaa
open Go.Sh Go.RowKit

/-- P24.2: the worst walk's loads. -/
def worstS (l : List Mod) (name : ByteArray) (n : Int) : Int × Int :=
  if fromE l name = 0 then (if 0 ≤ n ∧ n ≤ 12 then ((enterR (getD (PL l) name).1 (0, 0)).2 + WS (PL l) n.toNat [] name (enterR (getD (PL l) name).1 (0, 0)).1, 0) else (0, 1)) else (0, fromE l name)

theorem getD_calls {l : List Mod} (hF : Fits l) {x y : ByteArray} (hy : y ∈ (getD (PL l) x).2) : nameB y = true := by
  unfold getD at hy
  cases hg : AL.get (PL l) x with
  | none => rw [hg] at hy; simp at hy
  | some p =>
    rw [hg] at hy
    obtain ⟨m, hm, _, _, hc⟩ := PL_mem (AL.get_mem hg)
    have hr := hF.right m hm
    simp only [rightB, Bool.and_eq_true, List.all_eq_true] at hr
    exact hr.2 _ hc _ hy
theorem getD_len {l : List Mod} (hF : Fits l) (x : ByteArray) : (getD (PL l) x).2.length ≤ 100 := by
  unfold getD
  cases hg : AL.get (PL l) x with
  | none => simp
  | some p =>
    obtain ⟨m, hm, _, _, hc⟩ := PL_mem (AL.get_mem hg)
    exact hF.calls m hm _ hc
theorem isIn_name {l : List Mod} (hF : Fits l) {x : ByteArray} (h : isIn (PL l) x = true) : nameB x = true := by
  unfold isIn at h
  obtain ⟨p, hg⟩ := Option.isSome_iff_exists.1 h
  obtain ⟨m, hm, hp, _, hc⟩ := PL_mem (AL.get_mem hg)
  have hr := hF.right m hm
  simp only [rightB, Bool.and_eq_true, List.all_eq_true] at hr
  exact hr.1.1.2 _ hp

set_option maxHeartbeats 1000000 in
theorem worst42_c (w : World) (s : SV) (l : List Mod) (hl : RdSl w s l) (hL : Lim.ok l) (name : ByteArray) (n : Int) :
    Calls Try.prog 42 #[.slice s.a s.len s.cap, .string name, .int .i64 n] w fun e w' => e = .returned (.tuple #[.int .i64 (worstS l name n).1, .int .i64 (worstS l name n).2]) ∧ Pu w w' := by
  refine F42_calls s name n w _ ?_
  refine Calls.mono (openFrom_c w s l hl hL name) ?_
  rintro e w1 ⟨m, rfl, hp1, hO⟩
  refine ⟨m, _, rfl, ?_⟩
  refine alE_intro fun w2 hw2 => ?_
  have hp2 : Pu w1 w2 := by rw [hw2]; exact Pu.alloc w1 _
  have z2 : w2.heap.size = w1.heap.size + 1 := by rw [hw2]; simp
  have hb8 : w2.heap[w1.heap.size]? = some (.cells #[.map none] 57) := by rw [hw2]; exact alloc_new w1 _
  refine st1_intro hb8 (by show 0 < 1; omega) fun w3 hw3 hb8 => ?_
  have hf3 : Fr (· = w1.heap.size) w2 w3 := by rw [hw3]; exact Fr.cell w2 _ _ _
  have z3 : w3.heap.size = w2.heap.size := by rw [hw3]; simp
  have hb8 : w3.heap[w1.heap.size]? = some (.cells #[.map m] 57) := hb8
  have hP3 : Pu w1 w3 := Pu.andNew hp2 hf3 fun i hi => by omega
  refine Br.of (fun h1 => ?_) (fun h1 => ?_)
  · have h1 : fromE l name ≠ 0 := by simpa using h1
    exact ⟨by rw [worstS, if_neg h1], hp1.trans hP3⟩
  have h1 : fromE l name = 0 := by simpa using h1
  refine Br.of (fun h2 => ?_) (fun h2 => Br.of (fun h3 => ?_) (fun h3 => ?_))
  · have h2 := dtrue h2
    exact ⟨by rw [worstS, if_pos h1, if_neg (by omega)], hp1.trans hP3⟩
  · have h3 := dtrue h3
    exact ⟨by rw [worstS, if_pos h1, if_neg (by omega)], hp1.trans hP3⟩
  have h2 := dfalse h2
  have h3 := dfalse h3
  obtain ⟨b, L, rfl, hM, hR⟩ := hO h1
  obtain ⟨ho, hin⟩ := from_open h1
  have hF := fits_of (open_valid ho)
  have hlb := hM.lt
  refine alE_intro fun w7 hw7 => ?_
  have hp7 : Pu w3 w7 := by rw [hw7]; exact Pu.alloc w3 _
  have z7 : w7.heap.size = w3.heap.size + 1 := by rw [hw7]; simp
  have hM7 : MapAt w7 ekW evI w3.heap.size [] := by rw [hw7]; exact MapAt.new w3 _ _
  refine alE_intro fun w8 hw8 => ?_
  have hp8 : Pu w7 w8 := by rw [hw8]; exact Pu.alloc w7 _
  have z8 : w8.heap.size = w7.heap.size + 1 := by rw [hw8]; simp
  have hb10 : w8.heap[w7.heap.size]? = some (.cells #[.map none] 103) := by rw [hw8]; exact alloc_new w7 _
  refine st1_intro hb10 (by show 0 < 1; omega) fun w9 hw9 hb10 => ?_
  have hf9 : Fr (· = w7.heap.size) w8 w9 := by rw [hw9]; exact Fr.cell w8 _ _ _
  have z9 : w9.heap.size = w8.heap.size := by rw [hw9]; simp
  have hb10 : w9.heap[w7.heap.size]? = some (.cells #[.map (some w3.heap.size)] 103) := hb10
  refine alE_intro fun w10 hw10 => ?_
  have hp10 : Pu w9 w10 := by rw [hw10]; exact Pu.alloc w9 _
  have z10 : w10.heap.size = w9.heap.size + 1 := by rw [hw10]; simp
  have hb11 : w10.heap[w9.heap.size]? = some (.cells #[.nilFunc] 104) := by rw [hw10]; exact alloc_new w9 _
  refine st1_intro hb11 (by show 0 < 1; omega) fun w11 hw11 hb11 => ?_
  have hf11 : Fr (· = w9.heap.size) w10 w11 := by rw [hw11]; exact Fr.cell w10 _ _ _
  have z11 : w11.heap.size = w10.heap.size := by rw [hw11]; simp
  have hb11 : w11.heap[w9.heap.size]? = some (.cells #[worstFn w7.heap.size w1.heap.size w9.heap.size] 104) := hb11
  have hP9 : Pu w3 w9 := Pu.andNew (hp7.trans hp8) hf9 fun i hi => by omega
  have hP11 : Pu w3 w11 := Pu.andNew (hP9.trans hp10) hf11 fun i hi => by omega
  have hb8 := hP11.blk hb8
  have hb10 := hf11.blk (hp10.blk hb10) (by omega)
  have hM11 : MapAt w11 ekW evI w3.heap.size [] := (((hM7.pu hp8).fr hf9 (by omega)).pu hp10).fr hf11 (by omega)
  have hQ11 : Pu w1 w11 := hP3.trans hP11
  have S11 : WSt (PL l) w1 b w7.heap.size w1.heap.size w9.heap.size w3.heap.size w11 [] := ⟨hQ11, hb10, hb8, hb11, hM11, fun k v hv => by simp [AL.get] at hv⟩
  have hC : WCtx w1 b L (PL l) := ⟨hM, hR, fun x y hy => getD_calls hF hy, getD_len hF⟩
  refine ⟨some b, by rw [cell_blk hb8]; rfl, _, _, w11, (look57 (hM.pu hQ11) name).2, ?_⟩
  rw [(hR.get name).2.1]
  refine Calls.mono (enter_c w11 (0, 0) (getD (PL l) name).1 (by simp) (by simp)) ?_
  rintro e w13 ⟨rfl, hp13⟩
  refine ⟨_, _, rfl, ?_⟩
  have hS : worstS l name n = ((enterR (getD (PL l) name).1 (0, 0)).2 + WS (PL l) n.toNat [] name (enterR (getD (PL l) name).1 (0, 0)).1, 0) := by rw [worstS, if_pos h1, if_pos (by omega)]
  have hbnd := enter_one (getD (PL l) name).1 0
  have hws := WS_bounds (PL l) n.toNat [] name (enterR (getD (PL l) name).1 (0, 0)).1
  generalize enterR (getD (PL l) name).1 (0, 0) = q at *
  refine boxA (by rfl) (by kernel_rfl) (by rfl) fun w15 hp15 hs15 hb12 => ?_
  refine dwE_intro fun w16 hp16 hh16 => ?_
  have hp : Pu w11 w16 := (hp13.trans hp15).trans hp16
  have S16 := S11.pu' hp
  have hb12 := hp16.blk hb12
  have z13 := hp13.size
  obtain ⟨k, rfl⟩ : ∃ k : Nat, n = (k : Int) := ⟨n.toNat, by omega⟩
  rw [Int.toNat_natCast] at hS hws
  refine ⟨fun w' => w'.heap[w13.heap.size]? = some (.cells #[.int .i64 q.1, .int .i64 q.2] 61) ∧ w'.heap[w9.heap.size]? = some (.cells #[worstFn w7.heap.size w1.heap.size w9.heap.size] 104), ⟨hb12, S16.f⟩, q.2, fun w' h => by rw [add_def, cell_blk h.1]; rfl, worstFn w7.heap.size w1.heap.size w9.heap.size, fun w' h => by rw [cell_blk h.2]; rfl, q.1, fun w' h => by rw [cell_blk h.1]; rfl, by kernel_rfl, ?_⟩
  refine Calls.mono (worst_c hC (by omega) (by omega) (by omega) (by omega) k [] name q.1 w16 [] (by simp only [List.length_nil]; omega) (by simp) (isIn_name hF hin) S16) ?_
  rintro e w17 ⟨rfl, M', S17, hf17⟩
  refine ⟨_, rfl, ⟨hf17.blk hb12 (by omega), S17.f⟩, ?_⟩
  rw [wrap_in (by omega) (by omega), hS]
  exact ⟨rfl, hp1.trans S17.pu⟩

set_option maxHeartbeats 1000000 in
theorem bound_k (w : World) (s : SV) (l : List Mod) (hl : RdSl w s l) (hL : Lim.ok l) (name : ByteArray) (hn : Lim.ok name) (sw : SV) (walk : List ByteArray) (hw : RdSl w sw walk) (_ : Lim.ok walk) :
    Calls Try.prog 12 #[.slice s.a s.len s.cap, .string name, .slice sw.a sw.len sw.cap] w fun e w' => e = .returned (.bool true) ∧ Pu w w' := by
  refine F12_calls s name sw w _ ?_
  have kn : ∀ w1, Pu w w1 → Calls Try.prog 16 #[] w1 fun e w2 => ∃ b99 : Bool, e = .returned (.bool b99) ∧ runD Try.prog [] w2 fun w3 => (Ending.returned (.bool b99) = .returned (.bool true) ∧ Pu w w3) := fun w1 hp => by
    refine Calls.mono (known_c w1) ?_
    rintro e w2 ⟨rfl, hp2⟩
    exact ⟨true, rfl, rfl, hp.trans hp2⟩
  refine Calls.mono (over_c w s l hl) ?_
  rintro e w1 ⟨b, rfl, hp1, hov⟩
  refine ⟨b, rfl, Br.of (fun _ => kn w1 hp1) (fun h1 => ?_)⟩
  refine Br.of (fun _ => kn w1 hp1) (fun _ => ?_)
  refine Calls.mono (heavy_c w1 sw walk (hw.pu hp1)) ?_
  rintro e w1' ⟨⟨n26, rfl⟩, rfl⟩
  refine ⟨n26, rfl, Br.of (fun _ => kn w1' hp1) (fun _ => ?_)⟩
  refine Calls.mono (wide_c w1' s l (hl.pu hp1)) ?_
  rintro e w2 ⟨b2, rfl, hp2⟩
  have hp2 := hp1.trans hp2
  refine ⟨b2, rfl, Br.of (fun _ => kn w2 hp2) (fun _ => ?_)⟩
  refine Calls.mono (loads_c w2 s l (hl.pu hp2) hL name sw walk (hw.pu hp2)) ?_
  rintro e w3 ⟨rfl, hp3⟩
  have hp3 := hp2.trans hp3
  refine ⟨_, _, rfl, Br.of (fun _ => kn w3 hp3) (fun h2 => ?_)⟩
  have h2 : (loadsS l name walk).2 = 0 := by simpa using h2
  refine Br.of (fun _ => kn w3 hp3) (fun h3 => ?_)
  have h3 := dfalse h3
  have hwl := hw.len
  refine Calls.mono (worst42_c w3 s l (hl.pu hp3) hL name _) ?_
  rintro e w4 ⟨rfl, hp4⟩
  have hp4 := hp3.trans hp4
  refine ⟨_, _, rfl, ?_⟩
  have key : (worstS l name (sw.len : Int)).2 = 0 ∧ (loadsS l name walk).1 ≤ (worstS l name (sw.len : Int)).1 ∧ (worstS l name (sw.len : Int)).1 ≤ (walk.length : Int) + 1 := by
    unfold loadsS at h2
    unfold loadsS worstS
    split at h2
    · rename_i hf
      rw [if_pos hf, if_pos hf, if_pos (by omega)]
      split at h2
      · simp at h2
      · rename_i hlen
        rw [if_neg hlen]
        split at h2
        · rename_i r hr
          rw [Int.toNat_natCast]
          have h5 := walk_WS (PL l) sw.len walk [] name _ r (by omega) hr
          have h6 := enter_one (getD (PL l) name).1 0
          have h7 := WS_bounds (PL l) sw.len [] name (enterR (getD (PL l) name).1 (0, 0)).1
          refine ⟨rfl, ?_, ?_⟩
          · exact h5
          · show _ + _ ≤ _
            omega
        · simp at h2
    · rename_i hf
      exact absurd h2 hf
  obtain ⟨k1, k2, k3⟩ := key
  refine Br.t (by simp [k1]) (Br.t (by simpa using k2) (Br.t ?_ (kn w4 hp4)))
  rw [wrap_in (by omega) (by omega)]
  apply decide_eq_true
  omega
end Go.Proofs.Ytcnenlmhbpijlaa
