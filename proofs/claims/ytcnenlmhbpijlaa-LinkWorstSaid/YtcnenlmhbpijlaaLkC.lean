import Derived.Test.YtcnenlmhbpijlaaLkSeq
import Derived.Test.YtcnenlmhbpijlaaSkSort
import Derived.Test.YtcnenlmhbpijlaaSkCompact
import Derived.Test.YtcnenlmhbpijlaaLkF0
import Derived.Test.YtcnenlmhbpijlaaShEighteen
import Derived.Sort.OwnSorted
/- The library's Sort and Compact of texts on a row that the call owns; slices.Sorted over an iterator; over slices.Values. No condition but the reach's. -/
set_option maxRecDepth 100000
set_option linter.unusedVariables false
set_option linter.unusedSimpArgs false
namespace Go.Proofs.Ytcnenlmhbpijlaa
open Go.Sh Go.RowKit Go.Sort

abbrev toL (s : ByteArray) : List UInt8 := s.data.toList
abbrev strV (l : List ByteArray) : List Value := l.map Value.string
theorem row_of_owns {w : World} {b : Nat} {e : TypeId} {sz n : Nat} {s : SV} {vs : List Value} (h : w.ownsRow b e sz (.slice s.a s.len s.cap) n vs) (hn : n = s.len) : RowAt w e sz s vs ∧ ∀ k ∈ blkOf s, b ≤ k := by
  obtain ⟨h1, ⟨h2, h3⟩ | ⟨g, cap, cur, h2, h3, h4, h5, h6, h7, h8⟩⟩ := h
  · simp only [Value.slice.injEq] at h2
    obtain ⟨e1, e2, e3⟩ := h2
    obtain ⟨a, l, c⟩ := s
    simp only at e1 e2 e3
    subst e1 e2 e3
    exact ⟨⟨by rw [h1, hn], .inl rfl⟩, fun k hk => by simp [blkOf] at hk⟩
  · simp only [Value.slice.injEq] at h2
    obtain ⟨e1, e2, e3⟩ := h2
    subst hn
    rw [← e3] at h5 h6 h7
    exact ⟨⟨h1, .inr ⟨g, cur, e1, h4, h5, h6, h7, h8⟩⟩, fun k hk => by simp [blkOf, e1] at hk; omega⟩
theorem fr_of_grown {w w' : World} {row : Option Nat} (h : w.grownBy w' row) : Fr (fun k => some k = row) w w' := ⟨h.os, h.tape, h.output, h.size, fun k hk hn => h.block k hk hn⟩
/-- A row of texts, read. -/
theorem rd_of_row {w : World} {e : TypeId} {s : SV} {l : List ByteArray} (h : RowAt w e 1 s (strV l)) (hl : l.length ≤ 140737488355328) : RdSl w s l := by
  have hlen : s.len = l.length := by have := h.1; simp at this; omega
  refine ⟨hlen, h.le_cap.1, by omega, fun i x hx => ?_⟩
  obtain ⟨a, ha, hc, _⟩ := h.cell (j := i) (v := .string x) (by simp [hx])
  refine ⟨a, ha, [.string x], rfl, fun j v hv => ?_⟩
  have hj : j = 0 := by cases j with
    | zero => rfl
    | succ j => simp at hv
  subst hj
  simp at hv
  subst hv
  have e0 : ∀ a : Addr, a.add 0 = a := fun a => by simp [Addr.add]
  rw [e0, show i * Enc.sz ByteArray = i from Nat.mul_one i]
  exact hc

theorem srt_map (l : List ByteArray) : ((l.map toL).mergeSort fun x y => decide (x ≤ y)).map encStr = strV (srt l) := by
  have h := List.map_mergeSort (r := bLe) (s := fun x y : List UInt8 => decide (x ≤ y)) (f := fun s : ByteArray => s.data.toList) (l := l) (fun a _ b _ => rfl)
  rw [← h]
  simp only [List.map_map, strV, srt]
  apply List.map_congr_left
  intro x _
  rfl

/-- slices.Sort. -/
theorem sort_c (w : World) (s : SV) (l : List ByteArray) (h : RowAt w 9 1 s (strV l)) (hl : l.length ≤ 140737488355328) :
    Calls Try.prog 97 #[.slice s.a s.len s.cap] w fun e w' => e = .returned (.tuple #[]) ∧ RowAt w' 9 1 s (strV (srt l)) ∧ Fr (· ∈ blkOf s) w w' := by
  have hlen : s.len = l.length := by have := h.1; simp at this; omega
  have hs := h
  obtain ⟨h1, rfl | ⟨g, cur, h3, h4, h5, h6, h7, h8⟩⟩ := h
  · have hl0 : l = [] := List.eq_nil_of_length_eq_zero (by simpa using hlen.symm)
    subst hl0
    refine Calls.mono (Try.slices_Sort_string_none none 0 w) ?_
    rintro e w' ⟨rfl, rfl⟩
    exact ⟨rfl, by simpa [srt] using hs, Fr.refl _ _⟩
  · have hss : (l.map toL).length = s.len := by simp [hlen]
    have hcur : cur.toList.take (l.map toL).length = (l.map toL).map encStr := by
      rw [hss]
      rw [Nat.mul_one] at h8
      rw [h8, List.map_map]
      apply List.map_congr_left
      intro x _
      rfl
    have hH := holds_of_block h4 hcur
    have key := Try.slices_Sort_string g 0 s.cap (l.map toL) w hH (blk_lt h4) (by rw [hss]; omega)
    rw [hss] at key
    rw [h3]
    refine Calls.mono key ?_
    rintro e w' ⟨rfl, n, os, rfl⟩
    refine ⟨rfl, ?_, (fr_of_grown (grownBy_sorted _)).mono fun i hi _ => ?_⟩
    · have ho := ownsRow_sorted (n := n) (os := os) (ts := (l.map toL).mergeSort fun x y => decide (x ≤ y)) (ss := l.map toL) (by simp) (Nat.zero_le g) h4 (by rw [hss]; exact h5) h6 h7
      rw [srt_map, hss] at ho
      rw [← h3] at ho
      exact (row_of_owns ho rfl).1
    · have : i = g := by simpa using hi
      subst this
      simp [blkOf, h3]

/-- slices.Compact. -/
theorem compact_c (w : World) (s : SV) (l : List ByteArray) (h : RowAt w 9 1 s (strV l)) (hl : l.length ≤ 140737488355328) :
    Calls Try.prog 85 #[.slice s.a s.len s.cap] w fun e w' => ∃ s' : SV, e = .returned (.slice s'.a s'.len s'.cap) ∧ s'.len = (cpt l).length ∧ RowAt w' 9 1 s' (strV (cpt l)) ∧ Fr (· ∈ blkOf s) w w' ∧ blkOf s' = blkOf s := by
  have hlen : s.len = l.length := by have := h.1; simp at this; omega
  have hs := h
  obtain ⟨h1, rfl | ⟨g, cur, h3, h4, h5, h6, h7, h8⟩⟩ := h
  · have hl0 : l = [] := List.eq_nil_of_length_eq_zero (by simpa using hlen.symm)
    subst hl0
    refine Calls.mono (Try.slices_Compact_string_empty none 0 w) ?_
    rintro e w' ⟨rfl, rfl⟩
    exact ⟨⟨none, 0, 0⟩, rfl, rfl, by simpa [cpt, cptFrom] using hs, Fr.refl _ _, rfl⟩
  · have hss : (l.map toL).length = s.len := by simp [hlen]
    have hcur : cur.toList.take (l.map toL).length = (l.map toL).map encStr := by
      rw [hss]
      rw [Nat.mul_one] at h8
      rw [h8, List.map_map]
      apply List.map_congr_left
      intro x _
      rfl
    have hH := holds_of_block h4 hcur
    have key := Try.slices_Compact_string g 0 s.cap (l.map toL) w hH (by rw [hss]; omega) (by rw [hss]; exact h5)
    have hce : (Lib.compact (l.map toL)).map (fun t => (⟨t.toArray⟩ : ByteArray)) = cpt l := compact_eq l
    have hcl : (Lib.compact (l.map toL)).length = (cpt l).length := by rw [← hce, List.length_map]
    have hle : (cpt l).length ≤ l.length := cptFrom_len l none
    rw [hss] at key
    rw [h3]
    refine Calls.mono key ?_
    rintro e w' ⟨rfl, q, rfl⟩
    refine ⟨⟨some ⟨g, 0, none⟩, (cpt l).length, s.cap⟩, by rw [hcl], rfl, ?_, ?_, by simp [blkOf, h3]⟩
    · refine ⟨by simp [strV], .inr ⟨g, putCells encStr 0 (Lib.compact (l.map toL) ++ List.replicate (s.len - (Lib.compact (l.map toL)).length) []).toArray cur, rfl, ?_, by show (cpt l).length ≤ s.cap; omega, h6, by simpa [putCells] using h7, ?_⟩⟩
      · have := heap_sorted (w := w) (n := q) (os := #[]) (Lib.compact (l.map toL) ++ List.replicate (s.len - (Lib.compact (l.map toL)).length) []).toArray h4
        rw [grow_empty] at this
        exact this
      · have htk := take_putCells cur (Lib.compact (l.map toL) ++ List.replicate (s.len - (Lib.compact (l.map toL)).length) []) (by simp [hcl]; omega)
        have h9 := congrArg (fun l' => l'.take (cpt l).length) htk
        simp only [List.take_take] at h9
        rw [Nat.min_eq_left (by simp [hcl])] at h9
        show List.take ((cpt l).length * 1) _ = _
        rw [Nat.mul_one, h9, List.map_append, List.take_append_of_le_length (by simp [hcl]), List.take_of_length_le (by simp [hcl]), ← hce]
        simp only [strV, List.map_map]
        rfl
    · have := grownBy_sorted (w := w) (g := g) (n := q) (os := #[]) (Lib.compact (l.map toL) ++ List.replicate (s.len - (Lib.compact (l.map toL)).length) []).toArray
      rw [grow_empty] at this
      refine (fr_of_grown this).mono fun i hi _ => ?_
      have : i = g := by simpa using hi
      subst this
      simp [blkOf, h3]

/-- slices.Sorted over an iterator. -/
theorem sorted_c (g : Nat) (lb : Array Value) (eg : ∀ args w, (callFunc g args).run Try.prog w = .ok (.enter g args) w) (S Sp : List ByteArray → Prop) (N : Nat) (hN : N ≤ 8796093022208) (w : World)
    (hS : ∀ xs, S xs → xs.length ≤ N) (hseq : SeqStopsK Fence.wide 9 Try.prog g lb (fun x : ByteArray => #[Value.string x]) (KeepB w.heap.size) S Sp N w) :
    Calls Try.prog 64 #[.func (.func g) #[] lb] w fun e w' => ∃ (s : SV) (xs : List ByteArray), e = .returned (.slice s.a s.len s.cap) ∧ S xs ∧ RowAt w' 9 1 s (strV (srt xs)) ∧ (∀ k ∈ blkOf s, w.heap.size ≤ k) ∧ Pu w w' := by
  refine F64_calls _ w _ ?_
  refine F100_calls _ w _ ?_
  have happ := callsIn_wide.1 (appendSeq_in Fence.wide 10 trivial rfl (by omega) g lb trivial eg S Sp N (by unfold maxLen; omega) (by omega) w.heap.size w (Nat.le_refl _) hseq)
  refine Calls.mono happ ?_
  rintro e w1 ⟨v, xs, rfl, hxs, hown, hB⟩
  obtain ⟨s, rfl, hn⟩ : ∃ s : SV, v = .slice s.a s.len s.cap ∧ xs.length = s.len := by
    rcases hown.2 with ⟨e1, e2⟩ | ⟨g', cap, cur, e1, _⟩
    · exact ⟨⟨none, 0, 0⟩, e1, e2⟩
    · exact ⟨⟨some ⟨g', 0, none⟩, xs.length, cap⟩, e1, rfl⟩
  obtain ⟨hrow, hfresh⟩ := row_of_owns hown hn
  refine ⟨s, rfl, s, rfl, ?_⟩
  refine Calls.mono (sort_c w1 s xs hrow (by have := hS xs hxs; omega)) ?_
  rintro e w2 ⟨rfl, hrow2, hf2⟩
  exact ⟨rfl, s, xs, rfl, hxs, hrow2, hfresh, Pu.andNew hB hf2 hfresh⟩

/-- slices.Sorted(slices.Values(l)). -/
theorem values_c (w : World) (s : SV) : Calls Try.prog 86 #[.slice s.a s.len s.cap] w fun e w' => e = .returned (.func (.func 107) #[] #[.pointer (some ⟨w.heap.size, 0, none⟩)]) ∧ w' = w.alloc (.cells #[.slice s.a s.len s.cap] 23) := by
  refine F86_calls s w _ ?_
  exact alE_intro fun w' hw' => ⟨rfl, hw'⟩
theorem sortedValues_c (w0 : World) (s : SV) (l : List ByteArray) (hl : RdSl w0 s l) (hN : l.length ≤ 8796093022208) :
    Calls Try.prog 64 #[.func (.func 107) #[] #[.pointer (some ⟨w0.heap.size, 0, none⟩)]] (w0.alloc (.cells #[.slice s.a s.len s.cap] 23)) fun e w' => ∃ s' : SV, e = .returned (.slice s'.a s'.len s'.cap) ∧ RowAt w' 9 1 s' (strV (srt l)) ∧ (∀ k ∈ blkOf s', w0.heap.size < k) ∧ Pu w0 w' := by
  obtain ⟨w, hw⟩ : ∃ w, w = w0.alloc (.cells #[.slice s.a s.len s.cap] 23) := ⟨_, rfl⟩
  have hp : Pu w0 w := by rw [hw]; exact Pu.alloc w0 _
  have hsz : w.heap.size = w0.heap.size + 1 := by rw [hw]; simp
  have hb : w.heap[w0.heap.size]? = some (.cells #[.slice s.a s.len s.cap] 23) := by rw [hw]; exact alloc_new w0 _
  rw [← hw]
  have hseq := values_stops Fence.wide 9 trivial rfl (by omega) w0.heap.size w.heap.size s l w (hl.pu hp) (fun a ha hne => by
    obtain ⟨x, hx⟩ : ∃ x, l[0]? = some x := by cases l with
      | nil => exact absurd rfl hne
      | cons x r => exact ⟨x, rfl⟩
    obtain ⟨a', ha', _, hc⟩ := hl.str hx
    rw [ha] at ha'; cases ha'
    have := World.block_lt_of_cell? w0 _ hc
    rw [show (a.add (0 * 1)).block = a.block by unfold Addr.add; split <;> rfl] at this
    omega) (by omega) (Nat.le_refl _) (by rw [cell_blk hb]; rfl)
  refine Calls.mono (sorted_c 107 #[.pointer (some ⟨w0.heap.size, 0, none⟩)] (enters_of Try.func107 (by kernel_rfl) rfl) (fun ys => ys = l) (fun pre => pre <+: l) l.length hN w (fun xs h => by rw [h]; exact Nat.le_refl _) hseq) ?_
  rintro e w' ⟨s', xs, rfl, rfl, hrow, hf, hp'⟩
  exact ⟨s', rfl, hrow, fun k hk => by have := hf k hk; omega, hp.trans hp'⟩
/-- How many texts a list has, each counted once. -/
theorem setCount_c (w : World) (s : SV) (l : List ByteArray) (hl : RdSl w s l) (hN : l.length ≤ 8796093022208) {K : Ending → World → Prop}
    (hK : ∀ (s' : SV) w', s'.len = (setS l).length → RowAt w' 9 1 s' (strV (setS l)) → (∀ k ∈ blkOf s', w.heap.size < k) → Pu w w' → K (.returned (.slice s'.a s'.len s'.cap)) w') :
    Calls Try.prog 86 #[.slice s.a s.len s.cap] w fun e w1 => ∃ v : Value, e = .returned v ∧ Calls Try.prog 64 #[v] w1 fun e w2 => ∃ l5 : SV, e = .returned (.slice l5.a l5.len l5.cap) ∧ Calls Try.prog 85 #[.slice l5.a l5.len l5.cap] w2 K := by
  refine Calls.mono (values_c w s) ?_
  rintro e w1 ⟨rfl, rfl⟩
  refine ⟨_, rfl, ?_⟩
  refine Calls.mono (sortedValues_c w s l hl hN) ?_
  rintro e w2 ⟨s2, rfl, hrow, hf, hp⟩
  refine ⟨s2, rfl, ?_⟩
  refine Calls.mono (compact_c w2 s2 (srt l) hrow (by rw [srt_length]; omega)) ?_
  rintro e w3 ⟨s3, rfl, hl3, hrow3, hf3, hb3⟩
  exact hK s3 w3 hl3 hrow3 (fun k hk => hf k (by rw [← hb3]; exact hk)) (Pu.andNew hp hf3 fun i hi => by have := hf i hi; omega)
end Go.Proofs.Ytcnenlmhbpijlaa
