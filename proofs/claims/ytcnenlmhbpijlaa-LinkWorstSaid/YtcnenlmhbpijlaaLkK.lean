import Derived.Test.YtcnenlmhbpijlaaLkJ
/- Link: sizes told; the example; how much is asked of. No condition but the reach's. -/
set_option maxRecDepth 100000
set_option linter.unusedVariables false
set_option linter.unusedSimpArgs false
namespace Go.Proofs.Ytcnenlmhbpijlaa
open Go.Sh Go.RowKit

def roomS (l : List Mod) : Int := Lib.maxOf ((List.range 15).map fun i => szOf l (i + 1))
def sizesS (l : List Mod) : Int × Int × Int := if validS l = 0 then (szOf l 0, roomS l, 0) else (0, 0, validS l)

theorem sizes_c (w : World) (s : SV) (l : List Mod) (hl : RdSl w s l) (hL : Lim.ok l) : Calls Try.prog 22 #[.slice s.a s.len s.cap] w fun e w' => e = .returned (.tuple #[.int .i64 (sizesS l).1, .int .i64 (sizesS l).2.1, .int .i64 (sizesS l).2.2]) ∧ Pu w w' := by
  refine F22_calls s w _ ?_
  refine Calls.mono (validate_c w s l hl hL) ?_
  rintro e w1 ⟨rfl, hp1⟩
  refine ⟨_, rfl, Br.of (fun h1 => ?_) (fun h1 => ?_)⟩
  · have h1 : validS l ≠ 0 := by simpa using h1
    exact ⟨by rw [sizesS, if_neg h1], hp1⟩
  have h1 : validS l = 0 := by simpa using h1
  refine Calls.mono (ends_c w1 s l (hl.pu hp1) (fits_of h1)) ?_
  rintro e w2 ⟨rfl, hp2⟩
  refine ⟨_, _, _, _, _, _, _, _, _, _, _, _, _, _, _, _, rfl, ?_⟩
  refine boxA (by rfl) (by kernel_rfl) (by rfl) fun w3 hp3 hs3 hb3 => ?_
  refine dwE_intro fun w4 hp4 hh4 => ?_
  have hb4 : w4.heap[w2.heap.size]? = some (.cells (endV (szOf l)).toArray 77) := hp4.blk hb3
  refine ⟨fun v => v.heap[w2.heap.size]? = some (.cells (endV (szOf l)).toArray 77), hb4, by decide, by decide, szOf l 0, fun v hv => ?_, by decide, by decide, by decide, ?_⟩
  · show v.cell? ((⟨w2.heap.size, 0, none⟩ : Addr).add 0) = _
    rw [add_def, cell_blk hv]; exact endV_at _ (by omega)
  show Calls Try.prog 57 #[.slice (some ⟨w2.heap.size, 1, none⟩) 15 15] w4 _
  refine Calls.mono (Try.slices_Max_int w2.heap.size 1 15 15 ((List.range 15).map fun i => szOf l (i + 1)) w4 (by omega) (by simp) (by omega) fun j hj => ?_) ?_
  · have hj : j < 15 := by simpa using hj
    rw [cell_blk hb4, endV_at _ (by omega)]
    simp [List.getD, hj, Nat.add_comm]
  rintro e w5 ⟨rfl, rfl⟩
  refine ⟨_, rfl, hb4, ?_, (((hp1.trans hp2).trans hp3).trans hp4)⟩
  rw [sizesS, if_pos h1]; rfl

/-! ### The example -/
def exL : List Mod := [⟨⟨#[77]⟩, 1, [⟨#[65]⟩], [10], [[⟨#[66]⟩]]⟩, ⟨⟨#[78]⟩, 2, [⟨#[66]⟩], [20], [[]]⟩]
theorem rd_block {α : Type} [Enc α] {w : World} {b : Nat} {c : Array Value} {e : TypeId} {l : List α} {n cap : Nat} (hb : w.heap[b]? = some (.cells c e)) (hn : n = l.length) (hcap : n ≤ cap) (hlim : n ≤ 140737488355328)
    (h : ∀ i x, l[i]? = some x → ∃ vs, Enc.rd w vs x ∧ ∀ j v, vs[j]? = some v → c[i * Enc.sz α + j]? = some v) : RdSl w ⟨some ⟨b, 0, none⟩, n, cap⟩ l :=
  ⟨hn, hcap, hlim, fun i x hx => by
    obtain ⟨vs, h1, h2⟩ := h i x hx
    refine ⟨_, rfl, vs, h1, fun j v hv => ?_⟩
    rw [add_def, add_def, cell_blk hb, Nat.zero_add]
    exact h2 j v hv⟩
theorem one_at {α : Type} {x y : α} {i : Nat} (h : [y][i]? = some x) : i = 0 ∧ x = y := by
  cases i with
  | zero => exact ⟨rfl, by simpa using h.symm⟩
  | succ i => simp at h
theorem two_at {α : Type} {x y z : α} {i : Nat} (h : [y, z][i]? = some x) : (i = 0 ∧ x = y) ∨ (i = 1 ∧ x = z) := by
  match i with
  | 0 => exact .inl ⟨rfl, by simpa using h.symm⟩
  | 1 => exact .inr ⟨rfl, by simpa using h.symm⟩
  | n + 2 => simp at h
theorem rd_str1 {w : World} {b : Nat} {e : TypeId} {x : ByteArray} (hb : w.heap[b]? = some (.cells #[.string x] e)) : RdSl w ⟨some ⟨b, 0, none⟩, 1, 1⟩ [x] :=
  rd_block hb rfl (by omega) (by omega) fun i y hy => by
    obtain ⟨rfl, rfl⟩ := one_at hy
    exact ⟨[.string y], rfl, fun j v hv => by obtain ⟨rfl, rfl⟩ := one_at hv; rfl⟩
theorem rd_int1 {w : World} {b : Nat} {e : TypeId} {x : Int} (hx : -9223372036854775808 ≤ x ∧ x ≤ 9223372036854775807) (hb : w.heap[b]? = some (.cells #[.int .i64 x] e)) : RdSl w ⟨some ⟨b, 0, none⟩, 1, 1⟩ [x] :=
  rd_block hb rfl (by omega) (by omega) fun i y hy => by
    obtain ⟨rfl, rfl⟩ := one_at hy
    exact ⟨[.int .i64 y], ⟨rfl, hx⟩, fun j v hv => by obtain ⟨rfl, rfl⟩ := one_at hv; rfl⟩
theorem rd_list1 {α : Type} [Enc α] {w : World} {b : Nat} {e : TypeId} {t : SV} {x : List α} (ht : RdSl w t x) (hb : w.heap[b]? = some (.cells #[.slice t.a t.len t.cap] e)) : RdSl w ⟨some ⟨b, 0, none⟩, 1, 1⟩ [x] :=
  rd_block hb rfl (by omega) (by omega) fun i y hy => by
    obtain ⟨rfl, rfl⟩ := one_at hy
    exact ⟨[.slice t.a t.len t.cap], ⟨t, rfl, ht⟩, fun j v hv => by obtain ⟨rfl, rfl⟩ := one_at hv; rfl⟩

theorem example_c (w : World) : Calls Try.prog 44 #[] w fun e w' => ∃ s : SV, e = .returned (.slice s.a s.len s.cap) ∧ RdSl w' s exL ∧ Pu w w' := by
  refine F44_calls w _ ?_
  refine alE_intro fun w1 e1 => alE_intro fun w2 e2 => alE_intro fun w3 e3 => alE_intro fun w4 e4 => alE_intro fun w5 e5 => alE_intro fun w6 e6 => alE_intro fun w7 e7 => alE_intro fun w8 e8 => ?_
  have p1 : Pu w w1 := by rw [e1]; exact Pu.alloc w _
  have p2 : Pu w1 w2 := by rw [e2]; exact Pu.alloc w1 _
  have p3 : Pu w2 w3 := by rw [e3]; exact Pu.alloc w2 _
  have p4 : Pu w3 w4 := by rw [e4]; exact Pu.alloc w3 _
  have p5 : Pu w4 w5 := by rw [e5]; exact Pu.alloc w4 _
  have p6 : Pu w5 w6 := by rw [e6]; exact Pu.alloc w5 _
  have p7 : Pu w6 w7 := by rw [e7]; exact Pu.alloc w6 _
  have p8 : Pu w7 w8 := by rw [e8]; exact Pu.alloc w7 _
  have q6 := (p7.trans p8)
  have q5 := p6.trans q6
  have q4 := p5.trans q5
  have q3 := p4.trans q4
  have q2 := p3.trans q3
  have q1 := p2.trans q2
  have r1 : RdSl w8 ⟨some ⟨w.heap.size, 0, none⟩, 1, 1⟩ [(⟨#[65]⟩ : ByteArray)] := rd_str1 (q1.blk (by rw [e1]; exact alloc_new w _))
  have r2 : RdSl w8 ⟨some ⟨w1.heap.size, 0, none⟩, 1, 1⟩ [(10 : Int)] := rd_int1 (by omega) (q2.blk (by rw [e2]; exact alloc_new w1 _))
  have r3 : RdSl w8 ⟨some ⟨w2.heap.size, 0, none⟩, 1, 1⟩ [(⟨#[66]⟩ : ByteArray)] := rd_str1 (q3.blk (by rw [e3]; exact alloc_new w2 _))
  have r4 : RdSl w8 ⟨some ⟨w3.heap.size, 0, none⟩, 1, 1⟩ [[(⟨#[66]⟩ : ByteArray)]] := rd_list1 r3 (q4.blk (by rw [e4]; exact alloc_new w3 _))
  have r5 : RdSl w8 ⟨some ⟨w4.heap.size, 0, none⟩, 1, 1⟩ [(⟨#[66]⟩ : ByteArray)] := rd_str1 (q5.blk (by rw [e5]; exact alloc_new w4 _))
  have r6 : RdSl w8 ⟨some ⟨w5.heap.size, 0, none⟩, 1, 1⟩ [(20 : Int)] := rd_int1 (by omega) (q6.blk (by rw [e6]; exact alloc_new w5 _))
  have r7 : RdSl w8 ⟨some ⟨w6.heap.size, 0, none⟩, 1, 1⟩ [([] : List ByteArray)] := rd_list1 (RdSl.nil w8 none 0) (p8.blk (by rw [e7]; exact alloc_new w6 _))
  have hb := alloc_new w7 (Obj.cells #[.string (⟨#[77]⟩ : ByteArray), .int .i64 1, .slice (some ⟨w.heap.size, 0, none⟩) 1 1, .slice (some ⟨w1.heap.size, 0, none⟩) 1 1, .slice (some ⟨w3.heap.size, 0, none⟩) 1 1, .string (⟨#[78]⟩ : ByteArray), .int .i64 2, .slice (some ⟨w4.heap.size, 0, none⟩) 1 1, .slice (some ⟨w5.heap.size, 0, none⟩) 1 1, .slice (some ⟨w6.heap.size, 0, none⟩) 1 1] 33)
  rw [← e8] at hb
  refine ⟨⟨some ⟨w7.heap.size, 0, none⟩, 2, 2⟩, rfl, rd_block hb rfl (by omega) (by omega) fun i m hm => ?_, p1.trans q1⟩
  rcases two_at hm with ⟨rfl, rfl⟩ | ⟨rfl, rfl⟩
  · refine ⟨_, ⟨_, _, _, rfl, by decide, r1, r2, r4⟩, fun j v hv => ?_⟩
    match j, hv with
    | 0, hv | 1, hv | 2, hv | 3, hv | 4, hv => exact hv
    | n + 5, hv => simp at hv
  · refine ⟨_, ⟨_, _, _, rfl, by decide, r5, r6, r7⟩, fun j v hv => ?_⟩
    match j, hv with
    | 0, hv | 1, hv | 2, hv | 3, hv | 4, hv => exact hv
    | n + 5, hv => simp at hv

theorem ex_valid : validS exL = 0 := by decide +kernel
theorem ex_miss : missL (PL exL) = [] := by decide +kernel
theorem ex_open : openE exL = 0 := by
  rw [openE, if_pos ex_valid, missS, ex_miss]
  simp [setS, srt, cpt, cptFrom]
theorem ex_from : fromE exL ⟨#[65]⟩ = 0 := by
  rw [fromE, if_pos ex_open, if_pos (by decide +kernel)]
theorem ex_walk : walkS (PL exL) [⟨#[65]⟩] (enterR (getD (PL exL) ⟨#[65]⟩).1 (0, 0)) [⟨#[66]⟩, ⟨#[]⟩] = some (1, 3) := by decide +kernel
theorem ex_loads : loadsS exL ⟨#[65]⟩ [⟨#[66]⟩, ⟨#[]⟩] = (3, 0) := by
  rw [loadsS, if_pos ex_from, if_neg (by simp), ex_walk]
theorem ex_sizes : sizesS exL = (0, 20, 0) := by
  rw [sizesS, if_pos ex_valid]
  have h1 : szOf exL 0 = 0 := by decide +kernel
  have h2 : roomS exL = 20 := by decide +kernel
  rw [h1, h2]
theorem lim_bytes {x : ByteArray} (h : x.size ≤ 140737488355328) : Lim.ok x := h
theorem lim_int {x : Int} (h : -9223372036854775808 ≤ x ∧ x ≤ 9223372036854775807) : Lim.ok x := h
theorem ex_lim : Lim.ok exL := fun m hm => by
  simp only [exL, List.mem_cons, List.not_mem_nil, or_false] at hm
  rcases hm with rfl | rfl
  · refine ⟨lim_bytes (by decide), fun x hx => ?_, fun x hx => ?_, fun x hx y hy => ?_⟩
    · simp at hx; subst hx; exact lim_bytes (by decide)
    · simp at hx; subst hx; exact lim_int (by decide)
    · simp at hx; subst hx; simp at hy; subst hy; exact lim_bytes (by decide)
  · refine ⟨lim_bytes (by decide), fun x hx => ?_, fun x hx => ?_, fun x hx y hy => ?_⟩
    · simp at hx; subst hx; exact lim_bytes (by decide)
    · simp at hx; subst hx; exact lim_int (by decide)
    · simp at hx; subst hx; simp at hy

theorem known_c (w : World) : Calls Try.prog 16 #[] w fun e w' => e = .returned (.bool true) ∧ Pu w w' := by
  refine F16_calls w _ ?_
  refine Calls.mono (example_c w) ?_
  rintro e w1 ⟨s, rfl, hs, hp1⟩
  refine ⟨s, rfl, ?_⟩
  refine alE_intro fun w2 e2 => ?_
  have p2 : Pu w1 w2 := by rw [e2]; exact Pu.alloc w1 _
  have hb2 : w2.heap[w1.heap.size]? = some (.cells #[.string ⟨#[66]⟩, .string ⟨#[]⟩] 9) := by rw [e2]; exact alloc_new w1 _
  have hw : RdSl w2 ⟨some ⟨w1.heap.size, 0, none⟩, 2, 2⟩ [(⟨#[66]⟩ : ByteArray), ⟨#[]⟩] := rd_block hb2 rfl (by omega) (by omega) fun i y hy => by
    rcases two_at hy with ⟨rfl, rfl⟩ | ⟨rfl, rfl⟩
    · exact ⟨[.string ⟨#[66]⟩], rfl, fun j v hv => by obtain ⟨rfl, rfl⟩ := one_at hv; rfl⟩
    · exact ⟨[.string ⟨#[]⟩], rfl, fun j v hv => by obtain ⟨rfl, rfl⟩ := one_at hv; rfl⟩
  refine Calls.mono (loads_c w2 s exL (hs.pu p2) ex_lim ⟨#[65]⟩ ⟨some ⟨w1.heap.size, 0, none⟩, 2, 2⟩ _ hw) ?_
  rintro e w3 ⟨rfl, p3⟩
  rw [ex_loads]
  refine ⟨3, 0, rfl, ?_⟩
  refine Calls.mono (example_c w3) ?_
  rintro e w4 ⟨s4, rfl, hs4, p4⟩
  refine ⟨s4, rfl, ?_⟩
  refine Calls.mono (sizes_c w4 s4 exL hs4 ex_lim) ?_
  rintro e w5 ⟨rfl, p5⟩
  rw [ex_sizes]
  exact ⟨0, 20, 0, rfl, Br.t rfl (Br.t rfl (Br.t rfl (Br.t rfl ⟨rfl, (((hp1.trans p2).trans p3).trans p4).trans p5⟩)))⟩

/-! ### Too much? -/
theorem heavy_c (w : World) (s : SV) (l : List ByteArray) (h : RdSl w s l) : Calls Try.prog 15 #[.slice s.a s.len s.cap] w fun e w' => (∃ n, e = .returned (.int .i64 n)) ∧ w' = w := by
  refine F15_calls s w _ ?_
  have hlen := h.len
  have hlim := h.lim
  refine loopUp l.length (fun k t w' => w' = w ∧ t.2 = (k : Int)) ⟨rfl, rfl⟩ ?_
  rintro k J ⟨n3, t⟩ w' hk ⟨rfl, ht⟩ hJ
  obtain rfl : t = (k : Int) := ht
  refine Br.of (fun hlt => ?_) (fun hge => ⟨⟨_, rfl⟩, rfl⟩)
  have hlt' : k < l.length := by have := dtrue hlt; omega
  obtain ⟨x, hx⟩ := at_k hlt'
  obtain ⟨ad, ha, hi, hc⟩ := h.str hx
  refine ⟨ad, ha, by omega, by omega, x, by simpa using hc, ?_⟩
  show J _ _
  rw [wrap_in (n := (k : Int) + 1) (by omega) (by omega)]
  exact hJ _ _ hlt' ⟨rfl, rfl⟩

theorem over_c (w : World) (s : SV) (l : List Mod) (hl : RdSl w s l) : Calls Try.prog 14 #[.slice s.a s.len s.cap] w fun e w' => ∃ b, e = .returned (.bool b) ∧ Pu w w' ∧ (b = false → l.length < 65536) := by
  refine F14_calls s w _ ?_
  have hlen := hl.len
  have hlim := hl.lim
  refine loopUp l.length (fun k t w' => Pu w w' ∧ t.2 = (k : Int) ∧ (k = 0 → t.1 = (l.length : Int)) ∧ (k ≠ 0 → l.length < 65536)) ⟨Pu.refl w, rfl, fun _ => by rw [hlen], fun h => absurd rfl h⟩ ?_
  rintro k J ⟨n3, t⟩ w' hk ⟨hp, ht, h0, h1⟩ hJ
  obtain rfl : t = (k : Int) := ht
  have h0 : k = 0 → n3 = (l.length : Int) := h0
  have fin : decide (n3 ≥ 65536) = false → l.length < 65536 := fun h => by
    by_cases hk0 : k = 0
    · have := h0 hk0; have := dfalse h; omega
    · exact h1 hk0
  refine Br.of (fun hlt => ?_) (fun hge => ⟨_, rfl, hp, fin⟩)
  refine Br.of (fun h2 => ?_) (fun h2 => ⟨_, rfl, hp, fin⟩)
  have hll : l.length < 65536 := by
    by_cases hk0 : k = 0
    · have := h0 hk0; have := dtrue h2; omega
    · exact h1 hk0
  have hlt' : k < l.length := by have := dtrue hlt; omega
  obtain ⟨m, hm⟩ := at_k hlt'
  obtain ⟨a, p, z, c, ha, hi, hM, c0, c1, c2, c3, c4⟩ := modAt hl hm
  refine dwE_intro fun w1 hp1 hh1 => ?_
  have hP1 : Pu w w1 := hp.trans hp1
  have z0 : ∀ a : Addr, a.add 0 = a := fun a => by simp [Addr.add]
  rw [z0] at c0
  refine ⟨fun v => Pu w v, hP1, a, ha, by omega, by omega, m.name, fun v hv => by simpa using hv.cell c0, a, ha, by omega, by omega, p, fun v hv => by simpa using hv.cell c2, a, ha, by omega, by omega, z, fun v hv => by simpa using hv.cell c3, a, ha, by omega, by omega, c, fun v hv => by simpa using hv.cell c4, ?_⟩
  refine Calls.mono (heavy_c w1 p m.procs (hM.procs.pu hP1)) ?_
  rintro e w2 ⟨⟨n30, rfl⟩, rfl⟩
  refine ⟨n30, rfl, hP1, ?_⟩
  have hcl := hM.calls.len
  have hclim := hM.calls.lim
  refine loopUp m.calls.length (fun j t w' => Pu w w' ∧ t.2 = (j : Int)) ⟨hP1, rfl⟩ ?_
  rintro j J2 ⟨n4, t⟩ w3 hj ⟨hp3, ht⟩ hJ2
  obtain rfl : t = (j : Int) := ht
  refine ⟨a, ha, by omega, by omega, c, by simpa using hp3.cell c4, Br.of (fun h3 => ?_) (fun h3 => ?_)⟩
  · have hj' : j < m.calls.length := by have := dtrue h3; omega
    obtain ⟨x, hx⟩ := at_k hj'
    obtain ⟨a4, t4, ha4, hi4, hc4, ht4⟩ := listAt (hM.calls.pu hp3) hx
    refine ⟨a, ha, by omega, by omega, c, by simpa using hp3.cell c4, a4, ha4, by omega, by omega, t4, by simpa using hc4, ?_⟩
    refine Calls.mono (heavy_c w3 t4 x ht4) ?_
    rintro e w4 ⟨⟨n5, rfl⟩, rfl⟩
    refine ⟨n5, rfl, ?_⟩
    rw [wrap_in (n := (j : Int) + 1) (by omega) (by omega)]
    exact hJ2 _ _ hj' ⟨hp3, rfl⟩
  · show J _ _
    rw [wrap_in (n := (k : Int) + 1) (by omega) (by omega)]
    exact hJ _ _ hlt' ⟨hp3, rfl, fun h => by omega, fun _ => hll⟩
end Go.Proofs.Ytcnenlmhbpijlaa
