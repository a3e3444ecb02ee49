/- Link: what is cloned: lists, and a module. No condition. -/
import Derived.Test.YtcnenlmhbpijlaaLkSame
import Derived.Test.YtcnenlmhbpijlaaLkV
set_option maxRecDepth 100000
set_option linter.unusedVariables false
set_option linter.unusedSimpArgs false
namespace Go.Proofs.Ytcnenlmhbpijlaa
open Go.Sh Go.RowKit

theorem u31 : Try.prog.underlying 31 = some (.slice 23) := by kernel_rfl
theorem info23 : (Try.prog.info? 23).map (fun i => (i.zero, i.size, i.bytes)) = some (some (.slice none 0 0), 1, 24) := by kernel_rfl
abbrev slV (t : SV) : Value := .slice t.a t.len t.cap
theorem nil_of_none {α : Type} [Enc α] {w : World} {s : SV} {l : List α} (h : RdSl w s l) (ha : s.a = none) : l = [] := by
  cases l with
  | nil => rfl
  | cons x r =>
    obtain ⟨a, h1, _⟩ := h.get 0 x rfl
    rw [ha] at h1; cases h1
theorem row_empty {w : World} {b : Nat} {e : TypeId} (h : w.heap[b]? = some (.cells #[] e)) : RowAt w e 1 ⟨some ⟨b, 0, none⟩, 0, 0⟩ [] := ⟨by simp, .inr ⟨b, #[], rfl, h, Nat.le_refl _, Nat.zero_le _, rfl, rfl⟩⟩

theorem clone_strs (w : World) (s : SV) (l : List ByteArray) (hl : RdSl w s l) (hb : l.length ≤ 1000000) : Calls Try.prog 69 #[.slice s.a s.len s.cap] w fun e w' => ∃ t : SV, e = .returned (.slice t.a t.len t.cap) ∧ RowAt w' 9 1 t (strV l) ∧ (∀ i ∈ blkOf t, w.heap.size ≤ i) ∧ Pu w w' := by
  refine F69_calls s w _ ?_
  refine ⟨_, w, eqS_slice_nil u23 _ _ _ _ _ w, Br.of (fun h => ?_) (fun h => ?_)⟩
  · have := nil_of_none hl (by simpa using h)
    subst this
    exact ⟨⟨none, 0, 0⟩, rfl, RowAt.nil _ _ _, by simp [blkOf], Pu.refl w⟩
  · refine alE_intro fun w1 hw1 => ?_
    have hp1 : Pu w w1 := by rw [hw1]; exact Pu.alloc w _
    have hn1 : w1.heap[w.heap.size]? = some (.cells #[] 9) := by rw [hw1]; exact alloc_new w _
    obtain ⟨t, w2, hra, hrow, hf, hblk, hlen⟩ := row_append_strs (P := Try.prog) (ty := 23) u23 info_str (row_empty hn1) (hl.pu hp1) (by have := hl.len; show 0 + s.len ≤ _; omega)
    have hs1 := hp1.size
    have hB : ∀ i ∈ blkOf (⟨some ⟨w.heap.size, 0, none⟩, 0, 0⟩ : SV), w.heap.size ≤ i := fun i hi => by simp [blkOf] at hi; omega
    refine ⟨t, w2, hra, t, rfl, by simpa using hrow, fun i hi => ?_, Pu.andNew hp1 hf hB⟩
    rcases hblk i hi with h | h
    · exact hB i h
    · omega
theorem clone_ints (w : World) (s : SV) (l : List Int) (hl : RdSl w s l) (hb : l.length ≤ 1000000) : Calls Try.prog 104 #[.slice s.a s.len s.cap] w fun e w' => ∃ t : SV, e = .returned (.slice t.a t.len t.cap) ∧ RowAt w' 3 1 t (intV l) ∧ (∀ i ∈ blkOf t, w.heap.size ≤ i) ∧ Pu w w' := by
  refine F104_calls s w _ ?_
  refine ⟨_, w, eqS_slice_nil u30 _ _ _ _ _ w, Br.of (fun h => ?_) (fun h => ?_)⟩
  · have := nil_of_none hl (by simpa using h)
    subst this
    exact ⟨⟨none, 0, 0⟩, rfl, RowAt.nil _ _ _, by simp [blkOf], Pu.refl w⟩
  · refine alE_intro fun w1 hw1 => ?_
    have hp1 : Pu w w1 := by rw [hw1]; exact Pu.alloc w _
    have hn1 : w1.heap[w.heap.size]? = some (.cells #[] 3) := by rw [hw1]; exact alloc_new w _
    obtain ⟨t, w2, hra, hrow, hf, hblk, hlen⟩ := row_append_list (P := Try.prog) (t := 30) (ty := 30) u30 info3 rfl (row_empty hn1) (m := s) (news := intV l) (by rw [hl.len]; simp) (fun j u hu => by
      obtain ⟨x, hx, rfl⟩ : ∃ x, l[j]? = some x ∧ Value.int .i64 x = u := by simpa using hu
      obtain ⟨a, ha, _, hc, _⟩ := (hl.pu hp1).int hx
      exact ⟨a, ha, by simpa using hc⟩) (fun u hu => by simp at hu; obtain ⟨x, _, rfl⟩ := hu; rfl) (by have := hl.len; show (0 + s.len) * _ ≤ _; omega)
    have hs1 := hp1.size
    have hB : ∀ i ∈ blkOf (⟨some ⟨w.heap.size, 0, none⟩, 0, 0⟩ : SV), w.heap.size ≤ i := fun i hi => by simp [blkOf] at hi; omega
    refine ⟨t, w2, hra, t, rfl, by simpa using hrow, fun i hi => ?_, Pu.andNew hp1 hf hB⟩
    rcases hblk i hi with h | h
    · exact hB i h
    · omega
/-- The slices that a list of lists holds. -/
theorem svs_of {α : Type} [Enc α] {w : World} {s : SV} {l : List (List α)} (h : RdSl w s l) : ∃ ss : List SV, ss.length = l.length ∧ ∀ i t, ss[i]? = some t → ∃ a x, s.a = some a ∧ w.cell? (a.add i) = some (slV t) ∧ l[i]? = some x ∧ RdSl w t x := by
  have key : ∀ n, n ≤ l.length → ∃ ss : List SV, ss.length = n ∧ ∀ i t, ss[i]? = some t → ∃ a x, s.a = some a ∧ w.cell? (a.add i) = some (slV t) ∧ l[i]? = some x ∧ RdSl w t x := by
    intro n
    induction n with
    | zero => exact fun _ => ⟨[], rfl, fun i t h => by simp at h⟩
    | succ n ih =>
      intro hn
      obtain ⟨ss, h1, h2⟩ := ih (by omega)
      obtain ⟨x, hx⟩ := at_k (l := l) (k := n) (by omega)
      obtain ⟨a, t, ha, _, hc, ht⟩ := listAt h hx
      refine ⟨ss ++ [t], by simp [h1], fun i u hu => ?_⟩
      by_cases hi : i < ss.length
      · rw [List.getElem?_append_left hi] at hu
        exact h2 i u hu
      · have hil := (List.getElem?_eq_some_iff.1 hu).1
        simp at hil
        have : i = n := by omega
        subst this
        rw [List.getElem?_append_right (by omega), h1, Nat.sub_self] at hu
        simp at hu; subst hu
        exact ⟨a, x, ha, by simpa using hc, hx, ht⟩
  exact key _ (Nat.le_refl _)
theorem clone_lists (w : World) (s : SV) (ss : List SV) (l : List (List ByteArray)) (hl : RdSl w s l) (hss : ss.length = l.length ∧ ∀ i t, ss[i]? = some t → ∃ a x, s.a = some a ∧ w.cell? (a.add i) = some (slV t) ∧ l[i]? = some x ∧ RdSl w t x) (hb : l.length ≤ 1000000) :
    Calls Try.prog 105 #[.slice s.a s.len s.cap] w fun e w' => ∃ t : SV, e = .returned (.slice t.a t.len t.cap) ∧ RowAt w' 23 1 t (ss.map slV) ∧ (∀ i ∈ blkOf t, w.heap.size ≤ i) ∧ Pu w w' := by
  refine F105_calls s w _ ?_
  refine ⟨_, w, eqS_slice_nil u31 _ _ _ _ _ w, Br.of (fun h => ?_) (fun h => ?_)⟩
  · have := nil_of_none hl (by simpa using h)
    subst this
    have hs0 : ss = [] := List.eq_nil_of_length_eq_zero hss.1
    subst hs0
    exact ⟨⟨none, 0, 0⟩, rfl, RowAt.nil _ _ _, by simp [blkOf], Pu.refl w⟩
  · refine alE_intro fun w1 hw1 => ?_
    have hp1 : Pu w w1 := by rw [hw1]; exact Pu.alloc w _
    have hn1 : w1.heap[w.heap.size]? = some (.cells #[] 23) := by rw [hw1]; exact alloc_new w _
    obtain ⟨t, w2, hra, hrow, hf, hblk, hlen⟩ := row_append_list (P := Try.prog) (t := 31) (ty := 31) u31 info23 rfl (row_empty hn1) (m := s) (news := ss.map slV) (by rw [hl.len]; simp [hss.1]) (fun j u hu => by
      obtain ⟨x, hx, rfl⟩ : ∃ x, ss[j]? = some x ∧ slV x = u := by simpa using hu
      obtain ⟨a, _, ha, hc, _⟩ := hss.2 j x hx
      exact ⟨a, ha, hp1.cell hc⟩) (fun u hu => by simp at hu; obtain ⟨x, _, rfl⟩ := hu; rfl) (by have := hl.len; show (0 + s.len) * _ ≤ _; omega)
    have hs1 := hp1.size
    have hB : ∀ i ∈ blkOf (⟨some ⟨w.heap.size, 0, none⟩, 0, 0⟩ : SV), w.heap.size ≤ i := fun i hi => by simp [blkOf] at hi; omega
    refine ⟨t, w2, hra, t, rfl, by simpa using hrow, fun i hi => ?_, Pu.andNew hp1 hf hB⟩
    rcases hblk i hi with h | h
    · exact hB i h
    · omega

/-- A module that owns its rows: their blocks are of Q. -/
structure OwnMod (w : World) (m : Mod) (p z c : SV) (Q : Nat → Prop) : Prop where
  ov : -9223372036854775808 ≤ m.ov ∧ m.ov ≤ 9223372036854775807
  szs : ∀ x ∈ m.sizes, -9223372036854775808 ≤ x ∧ x ≤ 9223372036854775807
  small : m.procs.length ≤ 1000000 ∧ m.sizes.length ≤ 1000000 ∧ m.calls.length ≤ 1000000 ∧ ∀ x ∈ m.calls, x.length ≤ 1000000
  procs : RowAt w 9 1 p (strV m.procs) ∧ ∀ i ∈ blkOf p, Q i
  sizes : RowAt w 3 1 z (intV m.sizes) ∧ ∀ i ∈ blkOf z, Q i
  calls : ∃ cs : List SV, cs.length = m.calls.length ∧ RowAt w 23 1 c (cs.map slV) ∧ (∀ i ∈ blkOf c, Q i) ∧ ∀ (i : Nat) t x, cs[i]? = some t → m.calls[i]? = some x → RowAt w 9 1 t (strV x) ∧ ∀ i ∈ blkOf t, Q i
theorem OwnMod.fr {w w' : World} {m : Mod} {p z c : SV} {Q B : Nat → Prop} (h : OwnMod w m p z c Q) (hf : Fr B w w') (hn : ∀ i, Q i → ¬ B i) : OwnMod w' m p z c Q := by
  obtain ⟨cs, h1, h2, h3, h4⟩ := h.calls
  exact ⟨h.ov, h.szs, h.small, ⟨h.procs.1.fr hf fun i hi => hn i (h.procs.2 i hi), h.procs.2⟩, ⟨h.sizes.1.fr hf fun i hi => hn i (h.sizes.2 i hi), h.sizes.2⟩, cs, h1, h2.fr hf fun i hi => hn i (h3 i hi), h3, fun i t x a b => ⟨(h4 i t x a b).1.fr hf fun j hj => hn j ((h4 i t x a b).2 j hj), (h4 i t x a b).2⟩⟩
theorem OwnMod.pu {w w' : World} {m : Mod} {p z c : SV} {Q : Nat → Prop} (h : OwnMod w m p z c Q) (hp : Pu w w') : OwnMod w' m p z c Q := h.fr (Fr.pu hp : Fr (fun _ => False) w w') fun _ _ h => h
theorem OwnMod.mono {w : World} {m : Mod} {p z c : SV} {Q Q' : Nat → Prop} (h : OwnMod w m p z c Q) (hq : ∀ i, Q i → i < w.heap.size → Q' i) : OwnMod w m p z c Q' := by
  obtain ⟨cs, h1, h2, h3, h4⟩ := h.calls
  exact ⟨h.ov, h.szs, h.small, ⟨h.procs.1, fun i hi => hq i (h.procs.2 i hi) (h.procs.1.lt i hi)⟩, ⟨h.sizes.1, fun i hi => hq i (h.sizes.2 i hi) (h.sizes.1.lt i hi)⟩, cs, h1, h2, fun i hi => hq i (h3 i hi) (h2.lt i hi), fun i t x a b => ⟨(h4 i t x a b).1, fun j hj => hq j ((h4 i t x a b).2 j hj) ((h4 i t x a b).1.lt j hj)⟩⟩
theorem rd_of_lists {α : Type} [Enc α] {w : World} {e : TypeId} {s : SV} {ss : List SV} {l : List (List α)} (h : RowAt w e 1 s (ss.map slV)) (hl : ss.length = l.length) (hr : ∀ (i : Nat) t x, ss[i]? = some t → l[i]? = some x → RdSl w t x) (hlim : l.length ≤ 140737488355328) : RdSl w s l := by
  have hlen : s.len = l.length := by have := h.1; simp at this; omega
  refine ⟨hlen, h.le_cap.1, by omega, fun i x hx => ?_⟩
  obtain ⟨t, ht⟩ := at_k (l := ss) (k := i) (by rw [hl]; exact (List.getElem?_eq_some_iff.1 hx).1)
  obtain ⟨a, ha, hc, _⟩ := h.cell (j := i) (v := slV t) (by simp [ht])
  refine ⟨a, ha, [slV t], ⟨t, rfl, hr i t x ht hx⟩, fun j v hv => ?_⟩
  obtain ⟨rfl, rfl⟩ := one_at hv
  have e0 : ∀ a : Addr, a.add 0 = a := fun a => by simp [Addr.add]
  rw [e0, show i * Enc.sz (List α) = i from Nat.mul_one i]
  exact hc
theorem OwnMod.rd {w : World} {m : Mod} {p z c : SV} {Q : Nat → Prop} (h : OwnMod w m p z c Q) : RdMod w m p z c := by
  obtain ⟨cs, h1, h2, h3, h4⟩ := h.calls
  obtain ⟨s1, s2, s3, s4⟩ := h.small
  exact ⟨h.ov, rd_of_row h.procs.1 (by omega), rd_of_ints h.sizes.1 h.szs (by omega), rd_of_lists h2 h1 (fun i t x a b => rd_of_row (h4 i t x a b).1 (by have := s4 x (List.mem_of_getElem? b); omega)) (by omega)⟩

set_option maxHeartbeats 1000000 in
theorem cloned_c (w : World) (m : Mod) (p z c : SV) (hM : RdMod w m p z c) (hsm : m.procs.length ≤ 1000000 ∧ m.sizes.length ≤ 1000000 ∧ m.calls.length ≤ 1000000 ∧ ∀ x ∈ m.calls, x.length ≤ 1000000) :
    Calls Try.prog 71 #[.agg #[.string m.name, .int .i64 m.ov, .slice p.a p.len p.cap, .slice z.a z.len z.cap, .slice c.a c.len c.cap]] w fun e w' => ∃ p' z' c' : SV, e = .returned (.agg #[.string m.name, .int .i64 m.ov, .slice p'.a p'.len p'.cap, .slice z'.a z'.len z'.cap, .slice c'.a c'.len c'.cap]) ∧
      OwnMod w' m p' z' c' (fun i => w.heap.size ≤ i) ∧ Pu w w' := by
  obtain ⟨s1, s2, s3, s4⟩ := hsm
  refine F71_calls _ _ p z c w _ ?_
  refine alE_intro fun w1 hw1 => alE_intro fun w2 hw2 => ?_
  have hp1 : Pu w w1 := by rw [hw1]; exact Pu.alloc w _
  have hp2 : Pu w1 w2 := by rw [hw2]; exact Pu.alloc w1 _
  have hz1 : w1.heap.size = w.heap.size + 1 := by rw [hw1]; simp
  have hz2 : w2.heap.size = w1.heap.size + 1 := by rw [hw2]; simp
  have hb1 : w2.heap[w.heap.size]? = some (.cells #[.string m.name, .int .i64 m.ov, .slice p.a p.len p.cap, .slice z.a z.len z.cap, .slice c.a c.len c.cap] 33) := hp2.blk (by rw [hw1]; exact alloc_new w _)
  have hb2 : w2.heap[w1.heap.size]? = some (.cells #[.string (⟨#[]⟩ : ByteArray), .int .i64 0, .slice none 0 0, .slice none 0 0, .slice none 0 0] 33) := by rw [hw2]; exact alloc_new w1 _
  refine dwE_intro fun w3 hp3 hh3 => ?_
  have hP3 := (hp1.trans hp2).trans hp3
  have hb1 := hp3.blk hb1
  have hb2 := hp3.blk hb2
  have hz3 := hp3.size
  refine ⟨fun u => u.heap[w.heap.size]? = some (.cells #[.string m.name, .int .i64 m.ov, .slice p.a p.len p.cap, .slice z.a z.len z.cap, .slice c.a c.len c.cap] 33), hb1, p, fun u hu => by rw [add_def, cell_blk hu]; rfl, z, fun u hu => by rw [add_def, cell_blk hu]; rfl, ?_⟩
  refine Calls.mono (clone_strs w3 p _ (hM.procs.pu hP3) s1) ?_
  rintro e w4 ⟨p', rfl, hrp, hfp, hp4⟩
  have hb1 := hp4.blk hb1
  have hb2 := hp4.blk hb2
  have hP4 := hP3.trans hp4
  have hz4 := hp4.size
  refine ⟨p', rfl, hb1, ?_⟩
  refine Calls.mono (clone_ints w4 z _ (hM.sizes.pu hP4) s2) ?_
  rintro e w5 ⟨z', rfl, hrz, hfz, hp5⟩
  have hb1 := hp5.blk hb1
  have hb2 := hp5.blk hb2
  have hP5 := hP4.trans hp5
  have hz5 := hp5.size
  have hrp := hrp.pu hp5
  refine ⟨z', rfl, ?_⟩
  refine st1_intro hb1 (by show 0 + 2 < 5; omega) fun w6 hw6 hb6 => ?_
  have hf6 : Fr (· = w.heap.size) w5 w6 := by rw [hw6]; exact Fr.cell w5 _ _ _
  have hb6 : w6.heap[w.heap.size]? = some (.cells #[.string m.name, .int .i64 m.ov, .slice p'.a p'.len p'.cap, .slice z.a z.len z.cap, .slice c.a c.len c.cap] 33) := hb6
  refine st1_intro hb6 (by show 0 + 3 < 5; omega) fun w7 hw7 hb7 => ?_
  have hf7 : Fr (· = w.heap.size) w6 w7 := by rw [hw7]; exact Fr.cell w6 _ _ _
  have hb7 : w7.heap[w.heap.size]? = some (.cells #[.string m.name, .int .i64 m.ov, .slice p'.a p'.len p'.cap, .slice z'.a z'.len z'.cap, .slice c.a c.len c.cap] 33) := hb7
  have hP7 : Pu w w7 := Pu.andNew (Pu.andNew hP5 hf6 fun i hi => by have hi : i = _ := hi; omega) hf7 fun i hi => by have hi : i = _ := hi; omega
  have hrp := (hrp.fr hf6 fun i hi h => by have h : i = _ := h; have := hfp i hi; omega).fr hf7 fun i hi h => by have h : i = _ := h; have := hfp i hi; omega
  have hrz := (hrz.fr hf6 fun i hi h => by have h : i = _ := h; have := hfz i hi; omega).fr hf7 fun i hi h => by have h : i = _ := h; have := hfz i hi; omega
  have hb2 := hf7.blk (hf6.blk hb2 (by show ¬ _ = _; omega)) (by show ¬ _ = _; omega)
  have hz6 := hf6.size
  have hz7 := hf7.size
  refine ⟨c, by rw [add_def, cell_blk hb7]; rfl, ?_⟩
  obtain ⟨ss, hss⟩ := svs_of hM.calls
  have hltp7 := hrp.lt
  have hltz7 := hrz.lt
  refine Calls.mono (clone_lists w7 c ss _ (hM.calls.pu hP7) ⟨hss.1, fun i t ht => let ⟨a, x, h1, h2, h3, h4⟩ := hss.2 i t ht; ⟨a, x, h1, hP7.cell h2, h3, h4.pu hP7⟩⟩ s3) ?_
  rintro e w8 ⟨c', rfl, hrc, hfc, hp8⟩
  have hb8 := hp8.blk hb7
  have hb2 := hp8.blk hb2
  have hrp := hrp.pu hp8
  have hrz := hrz.pu hp8
  have hz8 := hp8.size
  refine ⟨c', rfl, ?_⟩
  refine st1_intro hb8 (by show 0 + 4 < 5; omega) fun w9 hw9 hb9 => ?_
  have hf9 : Fr (· = w.heap.size) w8 w9 := by rw [hw9]; exact Fr.cell w8 _ _ _
  have hb9 : w9.heap[w.heap.size]? = some (.cells #[.string m.name, .int .i64 m.ov, .slice p'.a p'.len p'.cap, .slice z'.a z'.len z'.cap, .slice c'.a c'.len c'.cap] 33) := hb9
  have hP9 : Pu w w9 := Pu.andNew (hP7.trans hp8) hf9 fun i hi => by have hi : i = _ := hi; omega
  have hrp := hrp.fr hf9 fun i hi h => by have h : i = _ := h; have := hfp i hi; omega
  have hrz := hrz.fr hf9 fun i hi h => by have h : i = _ := h; have := hfz i hi; omega
  have hrc := hrc.fr hf9 fun i hi h => by have h : i = _ := h; have := hfc i hi; omega
  have hb2 := hf9.blk hb2 (by show ¬ _ = _; omega)
  have hz9 := hf9.size
  refine ⟨c', by rw [add_def, cell_blk hb9]; rfl, ?_⟩
  have hcl : c'.len = ss.length := by have := hrc.1; simp at this; omega
  have hltc := hrc.lt
  have hltp := hrp.lt
  have hltz := hrz.lt
  -- each call's list
  refine loopUp ss.length (fun k t w' => t = (k : Int) ∧ Pu w w' ∧ w9.heap.size ≤ w'.heap.size ∧ w'.heap[w.heap.size]? = some (.cells #[.string m.name, .int .i64 m.ov, .slice p'.a p'.len p'.cap, .slice z'.a z'.len z'.cap, .slice c'.a c'.len c'.cap] 33) ∧ w'.heap[w1.heap.size]? = some (.cells #[.string (⟨#[]⟩ : ByteArray), .int .i64 0, .slice none 0 0, .slice none 0 0, .slice none 0 0] 33) ∧
      RowAt w' 9 1 p' (strV m.procs) ∧ RowAt w' 3 1 z' (intV m.sizes) ∧
      ∃ cs : List SV, cs.length = k ∧ RowAt w' 23 1 c' ((cs ++ ss.drop k).map slV) ∧ ∀ (i : Nat) t x, cs[i]? = some t → m.calls[i]? = some x → RowAt w' 9 1 t (strV x) ∧ ∀ b ∈ blkOf t, w9.heap.size ≤ b)
    ⟨rfl, hP9, Nat.le_refl _, hb9, hb2, hrp, hrz, [], rfl, by simpa using hrc, fun i t x h => by simp at h⟩ ?_
  rintro k J t w10 hk ⟨rfl, hP10, hz10, hb10, hb10', hrp, hrz, cs, hcs, hrc, hin⟩ hJ
  refine Br.of (fun hlt => ?_) (fun hge => ?_)
  · have hlt' : k < ss.length := by have := dtrue hlt; omega
    obtain ⟨sv, hsv⟩ := at_k hlt'
    obtain ⟨_, x, _, _, hx, hrd⟩ := hss.2 k sv hsv
    have hvk : ((cs ++ ss.drop k).map slV)[k]? = some (slV sv) := by
      rw [List.getElem?_map, List.getElem?_append_right (by omega), hcs, Nat.sub_self, drop_at hsv]; rfl
    obtain ⟨a, ha, hc, _⟩ := hrc.cell hvk
    refine ⟨a, ha, by omega, by omega, sv, by simpa using hc, ?_⟩
    refine dwE_intro fun w11 hp11 hh11 => ?_
    have hb11 := hp11.blk hb10
    have hb11' := hp11.blk hb10'
    refine ⟨fun u => u.heap[w.heap.size]? = some (.cells #[.string m.name, .int .i64 m.ov, .slice p'.a p'.len p'.cap, .slice z'.a z'.len z'.cap, .slice c'.a c'.len c'.cap] 33), hb11, c', fun u hu => by rw [add_def, cell_blk hu]; rfl, ?_⟩
    have hrd' : RdSl w11 sv x := hrd.pu (hP10.trans hp11)
    refine Calls.mono (clone_strs w11 sv x hrd' (s4 x (List.mem_of_getElem? hx))) ?_
    rintro e w12 ⟨t12, rfl, hr12, hf12, hp12⟩
    have hb12 := hp12.blk hb11
    have hb12' := hp12.blk hb11'
    have hP1012 := hp11.trans hp12
    have hs11 := hp11.size
    have hs12 := hp12.size
    have hltk : k < ((cs ++ ss.drop k).map slV).length := by simp [hcs]; omega
    obtain ⟨a2, ha2, hst⟩ := (hrc.pu hP1012).st1 hltk (slV t12) (K := J ((k : Int) + 1)) fun w13 hr13 hf13 hs13 => by
      refine hJ _ _ hlt' ⟨rfl, Pu.andNew (hP10.trans hP1012) hf13 fun i hi => by have := hfc i hi; omega, by omega, hf13.blk hb12 fun h => by have := hfc _ h; omega, hf13.blk hb12' fun h => by have := hfc _ h; omega,
        (hrp.pu hP1012).fr hf13 fun i hi h => by have := hltp7 i hi; have := hfc i h; omega, (hrz.pu hP1012).fr hf13 fun i hi h => by have := hfc i h; have := hltz7 i hi; omega, cs ++ [t12], by simp [hcs], ?_, fun i t x' ht hx' => ?_⟩
      · have e1 : ((cs ++ ss.drop k).map slV).set k (slV t12) = ((cs ++ [t12]) ++ ss.drop (k + 1)).map slV := by
          rw [drop_at hsv, List.map_append, List.set_append_right _ _ (by simp [hcs])]
          simp [hcs]
        rw [← e1]
        exact hr13
      · have key : RowAt w12 9 1 t (strV x') ∧ ∀ b ∈ blkOf t, w9.heap.size ≤ b := by
          by_cases hi : i < cs.length
          · rw [List.getElem?_append_left hi] at ht
            obtain ⟨g1, g2⟩ := hin i t x' ht hx'
            exact ⟨g1.pu hP1012, g2⟩
          · have hil := (List.getElem?_eq_some_iff.1 ht).1
            simp at hil
            have : i = k := by omega
            subst this
            rw [List.getElem?_append_right (by omega), hcs, Nat.sub_self] at ht
            simp at ht; subst ht
            rw [hx] at hx'; cases hx'
            exact ⟨hr12, fun b hb => by have := hf12 b hb; omega⟩
        exact ⟨key.1.fr hf13 fun b hb h => by have := key.2 b hb; have := hltc b h; omega, key.2⟩
    refine ⟨t12, rfl, hb12, a2, ha2, by omega, by omega, ?_⟩
    rw [wrap_in (by omega) (by omega)]
    simpa using hst
  · have hge' : ¬ k < ss.length := by have := dfalse hge; omega
    have hd0 : ss.drop k = [] := drop_end hge'
    rw [hd0, List.append_nil] at hrc
    refine ⟨m.name, by rw [add_def, cell_blk hb10]; rfl, m.ov, by rw [add_def, cell_blk hb10]; rfl, p', by rw [add_def, cell_blk hb10]; rfl, z', by rw [add_def, cell_blk hb10]; rfl, c', by rw [add_def, cell_blk hb10]; rfl, ?_⟩
    refine stA_fill hb10' (by kernel_rfl) (by rfl) (by rfl) fun w11 hb11 hf11 hs11 => ?_
    refine ⟨m.name, by rw [add_def, cell_blk hb11]; rfl, m.ov, by rw [add_def, cell_blk hb11]; rfl, p', by rw [add_def, cell_blk hb11]; rfl, z', by rw [add_def, cell_blk hb11]; rfl, c', by rw [add_def, cell_blk hb11]; rfl, ?_⟩
    have own : OwnMod w10 m p' z' c' (fun i => w.heap.size ≤ i ∧ i ≠ w1.heap.size) := ⟨hM.ov, fun x hx => by
      obtain ⟨i, hi⟩ := List.mem_iff_getElem?.1 hx
      exact (hM.sizes.int hi).elim fun _ h => h.2.2.2, ⟨s1, s2, s3, s4⟩, ⟨hrp, fun i hi => by have := hfp i hi; omega⟩, ⟨hrz, fun i hi => by have := hfz i hi; omega⟩, cs, by have := hss.1; omega, hrc, fun i hi => by have := hfc i hi; omega, fun i t x ht hx => ⟨(hin i t x ht hx).1, fun b hb => by have := (hin i t x ht hx).2 b hb; omega⟩⟩
    exact ⟨p', z', c', rfl, (own.fr hf11 fun i hi h => hi.2 h).mono fun i hi _ => hi.1, Pu.andNew hP10 hf11 fun i hi => by have hi : i = _ := hi; omega⟩
end Go.Proofs.Ytcnenlmhbpijlaa
