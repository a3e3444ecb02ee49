import Derived.Test.YtcnenlmhbpijlaaLkV
import Derived.Test.YtcnenlmhbpijlaaLkFreach
import Derived.Test.YtcnenlmhbpijlaaShThirteen
import Derived.Test.YtcnenlmhbpijlaaLkC
import Derived.Sort.MapsRangeIn
import Derived.Test.YtcnenlmhbpijlaaLkT
import Derived.ArgAppend
/- Link: what is cloned: lists, and a module. No condition. -/
set_option maxRecDepth 100000
set_option linter.unusedVariables false
set_option linter.unusedSimpArgs false
namespace Go.Proofs.Ytcnenlmhbpijlaa
open Go.Sh Go.RowKit

theorem u31 : Try.prog.underlying 31 = some (.slice 23) := by kernel_rfl
theorem info23 : (Try.prog.info? 23).map (fun i => (i.zero, i.size, i.bytes)) = some (some (.slice none 0 0), 1, 24) := by kernel_rfl
abbrev slV (t : SV) : Value := .slice t.a t.len t.cap
theorem nil_of_none {α : Type} [Enc α] {w : World} {s : SV} {l : List α} (h : RdSl w s l) (ha : s.a = none) : l = [] := by
  cases l with
  | nil => rfl
  | cons x r =>
    obtain ⟨a, h1, _⟩ := h.get 0 x rfl
    rw [ha] at h1; cases h1
theorem row_empty {w : World} {b : Nat} {e : TypeId} (h : w.heap[b]? = some (.cells #[] e)) : RowAt w e 1 ⟨some ⟨b, 0, none⟩, 0, 0⟩ [] := ⟨by simp, .inr ⟨b, #[], rfl, h, Nat.le_refl _, Nat.zero_le _, rfl, rfl⟩⟩

theorem clone_strs (w : World) (s : SV) (l : List ByteArray) (hl : RdSl w s l) (hb : l.length ≤ 1000000) : Calls Try.prog 69 #[.slice s.a s.len s.cap] w fun e w' => ∃ t : SV, e = .returned (.slice t.a t.len t.cap) ∧ RowAt w' 9 1 t (strV l) ∧ (∀ i ∈ blkOf t, w.heap.size ≤ i) ∧ Pu w w' := by
  refine F69_calls s w _ ?_
  refine ⟨_, w, eqS_slice_nil u23 _ _ _ _ _ w, Br.of (fun h => ?_) (fun h => ?_)⟩
  · have := nil_of_none hl (by simpa using h)
    subst this
    exact ⟨⟨none, 0, 0⟩, rfl, RowAt.nil _ _ _, by simp [blkOf], Pu.refl w⟩
  · refine alE_intro fun w1 hw1 => ?_
    have hp1 : Pu w w1 := by rw [hw1]; exact Pu.alloc w _
    have hn1 : w1.heap[w.heap.size]? = some (.cells #[] 9) := by rw [hw1]; exact alloc_new w _
    obtain ⟨t, w2, hra, hrow, hf, hblk, hlen⟩ := row_append_strs (P := Try.prog) (ty := 23) u23 info_str (row_empty hn1) (hl.pu hp1) (by have := hl.len; show 0 + s.len ≤ _; omega)
    have hs1 := hp1.size
    have hB : ∀ i ∈ blkOf (⟨some ⟨w.heap.size, 0, none⟩, 0, 0⟩ : SV), w.heap.size ≤ i := fun i hi => by simp [blkOf] at hi; omega
    refine ⟨t, w2, hra, t, rfl, by simpa using hrow, fun i hi => ?_, Pu.andNew hp1 hf hB⟩
    rcases hblk i hi with h | h
    · exact hB i h
    · omega
theorem clone_ints (w : World) (s : SV) (l : List Int) (hl : RdSl w s l) (hb : l.length ≤ 1000000) : Calls Try.prog 104 #[.slice s.a s.len s.cap] w fun e w' => ∃ t : SV, e = .returned (.slice t.a t.len t.cap) ∧ RowAt w' 3 1 t (intV l) ∧ (∀ i ∈ blkOf t, w.heap.size ≤ i) ∧ Pu w w' := by
  refine F104_calls s w _ ?_
  refine ⟨_, w, eqS_slice_nil u30 _ _ _ _ _ w, Br.of (fun h => ?_) (fun h => ?_)⟩
  · have := nil_of_none hl (by simpa using h)
    subst this
    exact ⟨⟨none, 0, 0⟩, rfl, RowAt.nil _ _ _, by simp [blkOf], Pu.refl w⟩
  · refine alE_intro fun w1 hw1 => ?_
    have hp1 : Pu w w1 := by rw [hw1]; exact Pu.alloc w _
    have hn1 : w1.heap[w.heap.size]? = some (.cells #[] 3) := by rw [hw1]; exact alloc_new w _
    obtain ⟨t, w2, hra, hrow, hf, hblk, hlen⟩ := row_append_list (P := Try.prog) (t := 30) (ty := 30) u30 info3 rfl (row_empty hn1) (m := s) (news := intV l) (by rw [hl.len]; simp) (fun j u hu => by
      obtain ⟨x, hx, rfl⟩ : ∃ x, l[j]? = some x ∧ Value.int .i64 x = u := by simpa using hu
      obtain ⟨a, ha, _, hc, _⟩ := (hl.pu hp1).int hx
      exact ⟨a, ha, by simpa using hc⟩) (fun u hu => by simp at hu; obtain ⟨x, _, rfl⟩ := hu; rfl) (by have := hl.len; show (0 + s.len) * _ ≤ _; omega)
    have hs1 := hp1.size
    have hB : ∀ i ∈ blkOf (⟨some ⟨w.heap.size, 0, none⟩, 0, 0⟩ : SV), w.heap.size ≤ i := fun i hi => by simp [blkOf] at hi; omega
    refine ⟨t, w2, hra, t, rfl, by simpa using hrow, fun i hi => ?_, Pu.andNew hp1 hf hB⟩
    rcases hblk i hi with h | h
    · exact hB i h
    · omega
/-- The slices that a list of lists holds. -/
theorem svs_of {α : Type} [Enc α] {w : World} {s : SV} {l : List (List α)} (h : RdSl w s l) : ∃ ss : List SV, ss.length = l.length ∧ ∀ i t, ss[i]? = some t → ∃ a x, s.a = some a ∧ w.cell? (a.add i) = some (slV t) ∧ l[i]? = some x ∧ RdSl w t x := by
  have key : ∀ n, n ≤ l.length → ∃ ss : List SV, ss.length = n ∧ ∀ i t, ss[i]? = some t → ∃ a x, s.a = some a ∧ w.cell? (a.add i) = some (slV t) ∧ l[i]? = some x ∧ RdSl w t x := by
    intro n
    induction n with
    | zero => exact fun _ => ⟨[], rfl, fun i t h => by simp at h⟩
    | succ n ih =>
      intro hn
      obtain ⟨ss, h1, h2⟩ := ih (by omega)
      obtain ⟨x, hx⟩ := at_k (l := l) (k := n) (by omega)
      obtain ⟨a, t, ha, _, hc, ht⟩ := listAt h hx
      refine ⟨ss ++ [t], by simp [h1], fun i u hu => ?_⟩
      by_cases hi : i < ss.length
      · rw [List.getElem?_append_left hi] at hu
        exact h2 i u hu
      · have hil := (List.getElem?_eq_some_iff.1 hu).1
        simp at hil
        have : i = n := by omega
        subst this
        rw [List.getElem?_append_right (by omega), h1, Nat.sub_self] at hu
        simp at hu; subst hu
        exact ⟨a, x, ha, by simpa using hc, hx, ht⟩
  exact key _ (Nat.le_refl _)
theorem clone_lists (w : World) (s : SV) (ss : List SV) (l : List (List ByteArray)) (hl : RdSl w s l) (hss : ss.length = l.length ∧ ∀ i t, ss[i]? = some t → ∃ a x, s.a = some a ∧ w.cell? (a.add i) = some (slV t) ∧ l[i]? = some x ∧ RdSl w t x) (hb : l.length ≤ 1000000) :
    Calls Try.prog 105 #[.slice s.a s.len s.cap] w fun e w' => ∃ t : SV, e = .returned (.slice t.a t.len t.cap) ∧ RowAt w' 23 1 t (ss.map slV) ∧ (∀ i ∈ blkOf t, w.heap.size ≤ i) ∧ Pu w w' := by
  refine F105_calls s w _ ?_
  refine ⟨_, w, eqS_slice_nil u31 _ _ _ _ _ w, Br.of (fun h => ?_) (fun h => ?_)⟩
  · have := nil_of_none hl (by simpa using h)
    subst this
    have hs0 : ss = [] := List.eq_nil_of_length_eq_zero hss.1
    subst hs0
    exact ⟨⟨none, 0, 0⟩, rfl, RowAt.nil _ _ _, by simp [blkOf], Pu.refl w⟩
  · refine alE_intro fun w1 hw1 => ?_
    have hp1 : Pu w w1 := by rw [hw1]; exact Pu.alloc w _
    have hn1 : w1.heap[w.heap.size]? = some (.cells #[] 23) := by rw [hw1]; exact alloc_new w _
    obtain ⟨t, w2, hra, hrow, hf, hblk, hlen⟩ := row_append_list (P := Try.prog) (t := 31) (ty := 31) u31 info23 rfl (row_empty hn1) (m := s) (news := ss.map slV) (by rw [hl.len]; simp [hss.1]) (fun j u hu => by
      obtain ⟨x, hx, rfl⟩ : ∃ x, ss[j]? = some x ∧ slV x = u := by simpa using hu
      obtain ⟨a, _, ha, hc, _⟩ := hss.2 j x hx
      exact ⟨a, ha, hp1.cell hc⟩) (fun u hu => by simp at hu; obtain ⟨x, _, rfl⟩ := hu; rfl) (by have := hl.len; show (0 + s.len) * _ ≤ _; omega)
    have hs1 := hp1.size
    have hB : ∀ i ∈ blkOf (⟨some ⟨w.heap.size, 0, none⟩, 0, 0⟩ : SV), w.heap.size ≤ i := fun i hi => by simp [blkOf] at hi; omega
    refine ⟨t, w2, hra, t, rfl, by simpa using hrow, fun i hi => ?_, Pu.andNew hp1 hf hB⟩
    rcases hblk i hi with h | h
    · exact hB i h
    · omega

/-- A module that owns its rows: their blocks are of Q. -/
structure OwnMod (w : World) (m : Mod) (p z c : SV) (Q : Nat → Prop) : Prop where
  ov : -9223372036854775808 ≤ m.ov ∧ m.ov ≤ 9223372036854775807
  szs : ∀ x ∈ m.sizes, -9223372036854775808 ≤ x ∧ x ≤ 9223372036854775807
  small : m.procs.length ≤ 1000000 ∧ m.sizes.length ≤ 1000000 ∧ m.calls.length ≤ 1000000 ∧ ∀ x ∈ m.calls, x.length ≤ 1000000
  procs : RowAt w 9 1 p (strV m.procs) ∧ ∀ i ∈ blkOf p, Q i
  sizes : RowAt w 3 1 z (intV m.sizes) ∧ ∀ i ∈ blkOf z, Q i
  calls : ∃ cs : List SV, cs.length = m.calls.length ∧ RowAt w 23 1 c (cs.map slV) ∧ (∀ i ∈ blkOf c, Q i) ∧ ∀ (i : Nat) t x, cs[i]? = some t → m.calls[i]? = some x → RowAt w 9 1 t (strV x) ∧ ∀ i ∈ blkOf t, Q i
theorem OwnMod.fr {w w' : World} {m : Mod} {p z c : SV} {Q B : Nat → Prop} (h : OwnMod w m p z c Q) (hf : Fr B w w') (hn : ∀ i, Q i → ¬ B i) : OwnMod w' m p z c Q := by
  obtain ⟨cs, h1, h2, h3, h4⟩ := h.calls
  exact ⟨h.ov, h.szs, h.small, ⟨h.procs.1.fr hf fun i hi => hn i (h.procs.2 i hi), h.procs.2⟩, ⟨h.sizes.1.fr hf fun i hi => hn i (h.sizes.2 i hi), h.sizes.2⟩, cs, h1, h2.fr hf fun i hi => hn i (h3 i hi), h3, fun i t x a b => ⟨(h4 i t x a b).1.fr hf fun j hj => hn j ((h4 i t x a b).2 j hj), (h4 i t x a b).2⟩⟩
theorem OwnMod.pu {w w' : World} {m : Mod} {p z c : SV} {Q : Nat → Prop} (h : OwnMod w m p z c Q) (hp : Pu w w') : OwnMod w' m p z c Q := h.fr (Fr.pu hp : Fr (fun _ => False) w w') fun _ _ h => h
theorem OwnMod.mono {w : World} {m : Mod} {p z c : SV} {Q Q' : Nat → Prop} (h : OwnMod w m p z c Q) (hq : ∀ i, Q i → i < w.heap.size → Q' i) : OwnMod w m p z c Q' := by
  obtain ⟨cs, h1, h2, h3, h4⟩ := h.calls
  exact ⟨h.ov, h.szs, h.small, ⟨h.procs.1, fun i hi => hq i (h.procs.2 i hi) (h.procs.1.lt i hi)⟩, ⟨h.sizes.1, fun i hi => hq i (h.sizes.2 i hi) (h.sizes.1.lt i hi)⟩, cs, h1, h2, fun i hi => hq i (h3 i hi) (h2.lt i hi), fun i t x a b => ⟨(h4 i t x a b).1, fun j hj => hq j ((h4 i t x a b).2 j hj) ((h4 i t x a b).1.lt j hj)⟩⟩
theorem rd_of_lists {α : Type} [Enc α] {w : World} {e : TypeId} {s : SV} {ss : List SV} {l : List (List α)} (h : RowAt w e 1 s (ss.map slV)) (hl : ss.length = l.length) (hr : ∀ (i : Nat) t x, ss[i]? = some t → l[i]? = some x → RdSl w t x) (hlim : l.length ≤ 140737488355328) : RdSl w s l := by
  have hlen : s.len = l.length := by have := h.1; simp at this; omega
  refine ⟨hlen, h.le_cap.1, by omega, fun i x hx => ?_⟩
  obtain ⟨t, ht⟩ := at_k (l := ss) (k := i) (by rw [hl]; exact (List.getElem?_eq_some_iff.1 hx).1)
  obtain ⟨a, ha, hc, _⟩ := h.cell (j := i) (v := slV t) (by simp [ht])
  refine ⟨a, ha, [slV t], ⟨t, rfl, hr i t x ht hx⟩, fun j v hv => ?_⟩
  obtain ⟨rfl, rfl⟩ := one_at hv
  have e0 : ∀ a : Addr, a.add 0 = a := fun a => by simp [Addr.add]
  rw [e0, show i * Enc.sz (List α) = i from Nat.mul_one i]
  exact hc
theorem OwnMod.rd {w : World} {m : Mod} {p z c : SV} {Q : Nat → Prop} (h : OwnMod w m p z c Q) : RdMod w m p z c := by
  obtain ⟨cs, h1, h2, h3, h4⟩ := h.calls
  obtain ⟨s1, s2, s3, s4⟩ := h.small
  exact ⟨h.ov, rd_of_row h.procs.1 (by omega), rd_of_ints h.sizes.1 h.szs (by omega), rd_of_lists h2 h1 (fun i t x a b => rd_of_row (h4 i t x a b).1 (by have := s4 x (List.mem_of_getElem? b); omega)) (by omega)⟩

end Go.Proofs.Ytcnenlmhbpijlaa

/- The library's iterator over the keys of a map with keys of texts, maps.Keys. No condition but the reach's. -/
set_option maxRecDepth 100000
set_option linter.unusedVariables false
set_option linter.unusedSectionVars false
set_option linter.unusedSimpArgs false
namespace Go.Proofs.Ytcnenlmhbpijlaa
open Go.RowKit Go.Shelf Go.Sh

section
variable {κ ν : Type} [DecidableEq κ] {ek : κ → Value} {ev : ν → Value} {P : Program} {F : Fence} {n : Nat} {ops : Array Oper} {Q : Exit → Act → World → Prop} {rest : List Oper} {a : Act} {w : World} {o : Oper}
/-- How many entries a range has left. -/
def leftAt (r b : Nat) (w : World) : Nat := match w.heap[r]?, w.heap[b]? with
  | some (.mapIter _ _ seen _), some (.map es _) => (leftOf es seen).size
  | _, _ => 0
theorem leftAt_eq {r b : Nat} {l todo : List (κ × ν)} (h : IterAt w ek ev r b l todo) : leftAt r b w = todo.length := by
  obtain ⟨es, clk, since, seen, c0, h1, h2, _, _, _, h6, _⟩ := h
  have := h6.length
  rw [Array.length_toList] at this
  simp only [leftAt, h1, h2, this]
theorem iter_walks {w' : World} {r b : Nat} {l todo : List (κ × ν)} (h : IterAt w ek ev r b l todo) (hk : KeepsWalks w w') (hb : w'.heap[b]? = w.heap[b]?) : IterAt w' ek ev r b l todo := by
  obtain ⟨es, clk, since, seen, c0, h1, h2, h3⟩ := h
  exact ⟨es, clk, since, seen, c0, hk.same r _ h1 rfl, hb.trans h2, h3⟩
theorem iter_walk {r b : Nat} {l todo : List (κ × ν)} (h : IterAt w ek ev r b l todo) : ∃ o : Obj, w.heap[r]? = some o ∧ o.isWalk = true := by
  obtain ⟨es, clk, since, seen, c0, h1, _⟩ := h
  exact ⟨_, h1, rfl⟩
theorem grown_of_fr {w' : World} {r : Nat} (h : Fr (· = r) w w') : w.grownBy w' (some r) := ⟨h.os, h.tape, h.output, h.size, fun k hk hn => h.block k hk fun e => hn (by rw [e])⟩
theorem grown_of_pu {w' : World} (h : Pu w w') : w.grownBy w' none := ⟨h.os, h.tape, h.output, h.size, fun k hk _ => h.block k hk⟩
theorem below_of_fr {w' : World} {r n0 : Nat} (h : Fr (· = r) w w') (hr : n0 ≤ r) (hn : n0 ≤ w.heap.size) : Below n0 w w' := ⟨h.os, h.tape, h.output, h.size, fun k hk => h.block k (by omega) (by omega)⟩

theorem wpListIn_range_at (hg : o.guard = none) (m : Operand) (t kt e : TypeId) (hop : o.op = Op.range t m) (ht : P.underlying t = some (.map kt e)) (b : Nat) (l : List (κ × ν)) (hm : a.eval m = .map (some b)) (h : MapAt w ek ev b l)
    (hK : ∀ w', IterAt w' ek ev w.heap.size b l l → Pu w w' → w'.heap.size = w.heap.size + 1 → wpListIn F n P ops Q rest (a.put o.dst (.pointer (some ⟨w.heap.size, 0, none⟩))) w') : wpListIn F n P ops Q (o :: rest) a w := by
  refine wpListIn_plain hg fun K' hK' => ?_
  obtain ⟨w', hrun, r1, r2, r3⟩ := h.range ht
  unfold Oper.wpIn
  refine ⟨?_, ?_⟩
  · simp [Oper.about, hop]
  · rw [Oper.semAt_plain F _ _ (by rw [hop]; intro c hc'; cases hc')]
    simp [execOp, hop, hm, hrun, Result.andThen]
    exact hK' _ _ (hK w' r1 r2 r3)
theorem wpListIn_next_at (hg : o.guard = none) (it : Operand) (hop : o.op = Op.next it false) (b r : Nat) (l todo : List (κ × ν)) (hit : a.eval it = .pointer (some ⟨r, 0, none⟩)) (h : IterAt w ek ev r b l todo)
    (hDone : todo = [] → wpListIn F n P ops Q rest (a.put o.dst (.tuple #[.bool false])) w)
    (hMore : ∀ p w', p ∈ todo → Fr (· = r) w w' → w'.heap.size = w.heap.size → IterAt w' ek ev r b l (AL.del todo p.1) → (Instr.entry (.pointer (some ⟨r, 0, none⟩))).run P w' = .ok (.tuple #[ek p.1, ev p.2]) w' → wpListIn F n P ops Q rest (a.put o.dst (.tuple #[.bool true, ek p.1, ev p.2])) w') :
    wpListIn F n P ops Q (o :: rest) a w := by
  refine wpListIn_plain hg fun K' hK' => ?_
  unfold Oper.wpIn
  refine ⟨by simp [Oper.about, hop], ?_⟩
  rw [Oper.semAt_plain F _ _ (by rw [hop]; intro c hc'; cases hc')]
  rcases IterAt.next (P := P) h o.type with ⟨h0, hrun⟩ | ⟨p, hp, w', hrun, hf, hs, hI, hen⟩
  · simp [execOp, hop, hit, hrun, Result.andThen]
    exact hK' _ _ (hDone h0)
  · simp [execOp, hop, hit, hrun, Result.andThen]
    exact hK' _ _ (hMore p w' hp hf hs hI hen)
end

theorem srt_congr {l l' : List ByteArray} (h : l.Perm l') : srt l = srt l' :=
  List.Perm.eq_of_pairwise (le := fun a b => bLe a b = true) (fun a b _ _ h k => bLe_antisymm h k) (srt_sorted l) (srt_sorted l') (((srt_perm l).trans h).trans (srt_perm l').symm)
theorem keys_und_82 : ∃ e, Try.prog.underlying 82 = some (.map 9 e) := ⟨4, by kernel_rfl⟩
set_option maxHeartbeats 2000000 in
theorem keys1_in_101 {ν : Type} {ev : ν → Value} (F : Fence) (n : Nat) (h10 : F.fn 101) (hro : F.round = none) (hn : 1 ≤ n) (l Bs n₀ b : Nat) (L : List (ByteArray × ν)) (hb : b < n₀) (J Jx : List ByteArray → World → Prop)
    (W : World) (hn₀ : n₀ ≤ W.heap.size) (hJ : AbidesFrom W.heap.size J)
    (hY : ∀ pre x W1, J pre W1 → pre.length < L.length → YieldAt F (n - 1) Try.prog l #[.string x] W1 fun e W' =>
      (e = .returned (.bool true) ∧ J (pre ++ [x]) W' ∧ KeepB n₀ W1 W') ∨ (e = .returned (.bool false) ∧ Jx (pre ++ [x]) W'))
    (hBs : W.cell? ⟨Bs, 0, none⟩ = some (.map (some b))) (hM : MapAt W (fun s : ByteArray => Value.string s) ev b L) (h0 : J [] W) :
    CallsIn F n Try.prog 101 #[.func (.yield l) #[] #[], .pointer (some ⟨Bs, 0, none⟩)] W fun e W' => (∃ v, e = .returned v) ∧
      ((∃ ys, ys.Perm (L.map Prod.fst) ∧ J ys W') ∨ (∃ pre, True ∧ Jx pre W')) := by
  obtain ⟨et, hund⟩ := keys_und_82
  refine callsIn_of_wp Try.func101 rfl h10 ?_ hro
  simp only [Try.ntmps101, List.size_toArray, List.length_cons, List.length_nil, Nat.reduceAdd, Nat.reduceSub, Array.replicate_succ, Array.replicate_zero, List.push_toArray, List.append_toArray, List.nil_append, List.cons_append]
  gi_wp2_with (first
    | (gi_at_range; refine wpListIn_range_at rfl _ 82 9 et rfl hund b L rfl hM ?_; intro w0 hI0 hp0 hs0)
    | gi_in)
  go_frame
  gi_loopw [3] (fun _ wr => ∃ (todo : List (ByteArray × ν)) (ss : List ByteArray), IterAt wr (fun s : ByteArray => Value.string s) ev W.heap.size b L todo ∧ (ss ++ todo.map Prod.fst).Perm (L.map Prod.fst) ∧ J ss wr ∧ n₀ ≤ wr.heap.size)
    (fun _ wr => leftAt W.heap.size b wr)
  case atStart =>
    exact ⟨L, [], hI0, by simp, hJ [] W w0 none h0 (grown_of_pu hp0) (fun r e => by cases e), by omega⟩
  case round =>
    obtain ⟨todo, ss, hI, hperm, hJs, hnr⟩ := hrel
    gi_wp2_with (first
      | (gi_at_next; refine wpListIn_next_at rfl _ rfl b W.heap.size L todo rfl hI ?_ ?_)
      | gi_in)
    · intro ht0
      subst ht0
      gi_wp2
      go_end0
      exact ⟨⟨_, rfl⟩, .inl ⟨ss, by simpa using hperm, hJs⟩⟩
    · intro x c w2 hp hf hs hI2 hen
      have hJ2 : J ss w2 := hJ ss wr w2 (some W.heap.size) hJs (grown_of_fr hf) (fun r e => by cases e; exact ⟨Nat.le_refl _, iter_walk hI⟩)
      have hpd := AL.perm_del hp hI.nodup
      have hlen : ss.length < L.length := by
        have h1 := hperm.length_eq
        have h2 := hpd.length_eq
        simp at h1 h2
        omega
      obtain ⟨fn, tmps, assign, body, hy, hR⟩ := hY ss x w2 hJ2 hlen
      have hleft := leftAt_eq hI
      clear hs
      gi_wp2
      refine hR.mono ?_
      rintro e W3 (⟨rfl, hJ3, hB3, hK3⟩ | ⟨rfl, hJx3⟩)
      · gi_wp2
        have hI3 := iter_walks hI2 hK3 (hB3.block b hb)
        go_roundw
        case rel =>
          refine ⟨_, ss ++ [x], hI3, ?_, hJ3, by have := hf.size; have := hB3.size; omega⟩
          have h3 := hpd.map Prod.fst
          rw [List.append_assoc]
          exact ((List.Perm.append_left ss h3).symm).trans hperm
        case measure =>
          have h1 := leftAt_eq hI3
          have h2 := hpd.length_eq
          simp at h2
          omega
      · gi_wp2
        refine bodyPost_ret (results_none rfl _ _ _) rfl ?_
        exact ⟨⟨_, rfl⟩, .inr ⟨ss ++ [x], trivial, hJx3⟩⟩

theorem keys_stops_101 {ν : Type} {ev : ν → Value} (F : Fence) (n : Nat) (h10 : F.fn 101) (hro : F.round = none) (hn : 1 ≤ n) (Bs b : Nat) (L : List (ByteArray × ν)) (w : World) (hBs : Bs < w.heap.size)
    (hc : w.cell? ⟨Bs, 0, none⟩ = some (.map (some b))) (hM : MapAt w (fun s : ByteArray => Value.string s) ev b L) :
    SeqStopsK F n Try.prog 101 #[.pointer (some ⟨Bs, 0, none⟩)] (fun x : ByteArray => #[Value.string x]) (KeepB w.heap.size) (fun ys => ys.Perm (L.map Prod.fst)) (fun _ => True) L.length w := fun l J Jx W hW hJ _ hY h0 => by
  have hM' : MapAt W (fun s : ByteArray => Value.string s) ev b L := by
    have hbl := hM.lt
    obtain ⟨es, clk, h1, h2⟩ := hM
    exact ⟨es, clk, (hW.block b hbl).trans h1, h2⟩
  exact keys1_in_101 F n h10 hro hn l Bs w.heap.size b L hM.lt J Jx W hW.size hJ hY ((hW.cell (p := ⟨Bs, 0, none⟩) hBs).trans hc) hM' h0

/-- slices.Sorted(maps.Keys(m)): the keys, in order. -/
theorem sortedKeys_101 {ν : Type} {ev : ν → Value} (w0 : World) (b : Nat) (L : List (ByteArray × ν)) (hM : MapAt w0 (fun s : ByteArray => Value.string s) ev b L) (hN : L.length ≤ 8796093022208) :
    Calls Try.prog 64 #[.func (.func 101) #[] #[.pointer (some ⟨w0.heap.size, 0, none⟩)]] (w0.alloc (.cells #[.map (some b)] 82)) fun e w' => ∃ s' : SV, e = .returned (.slice s'.a s'.len s'.cap) ∧ RowAt w' 9 1 s' (strV (srt (L.map Prod.fst))) ∧ (∀ k ∈ blkOf s', w0.heap.size < k) ∧ Pu w0 w' := by
  obtain ⟨w, hw⟩ : ∃ w, w = w0.alloc (.cells #[.map (some b)] 82) := ⟨_, rfl⟩
  have hp : Pu w0 w := by rw [hw]; exact Pu.alloc w0 _
  have hsz : w.heap.size = w0.heap.size + 1 := by rw [hw]; simp
  have hb : w.heap[w0.heap.size]? = some (.cells #[.map (some b)] 82) := by rw [hw]; exact alloc_new w0 _
  rw [← hw]
  have hseq := keys_stops_101 Fence.wide 9 trivial rfl (by omega) w0.heap.size b L w (by omega) (by rw [cell_blk hb]; rfl) (hM.pu hp)
  refine Calls.mono (sorted_c 101 #[.pointer (some ⟨w0.heap.size, 0, none⟩)] (enters_of Try.func101 (by kernel_rfl) rfl) _ _ L.length hN w (fun xs h => by have := h.length_eq; simp at this; omega) hseq) ?_
  rintro e w' ⟨s', xs, rfl, hxs, hrow, hf, hp'⟩
  rw [srt_congr hxs] at hrow
  exact ⟨s', rfl, hrow, fun k hk => by have := hf k hk; omega, hp.trans hp'⟩
end Go.Proofs.Ytcnenlmhbpijlaa

/- Link: what is reached from a procedure: the program's search. No condition. -/
set_option maxRecDepth 100000
set_option linter.unusedVariables false
set_option linter.unusedSimpArgs false
namespace Go.Proofs.Ytcnenlmhbpijlaa
open Go.Sh Go.RowKit

inductive Reached (D : List PDat) (x : ByteArray) : ByteArray → Prop
  | self : Reached D x x
  | call {y z : ByteArray} : Reached D x y → z ∈ (getD D y).2 → Reached D x z
theorem Reached.trans {D : List PDat} {x y z : ByteArray} (h : Reached D x y) (k : Reached D y z) : Reached D x z := by
  induction k with
  | self => exact h
  | call _ hz ih => exact .call ih hz
/-- How many names are not seen. -/
def cntR (D : List PDat) (S : List ByteArray) : Nat := D.countP fun p => !has S p.1
theorem countP_lt {α : Type} {p q : α → Bool} {l : List α} (h : ∀ a, q a = true → p a = true) {x : α} (hx : x ∈ l) (hp : p x = true) (hq : q x = false) : l.countP q < l.countP p := by
  induction l with
  | nil => simp at hx
  | cons a r ih =>
    have hle : r.countP q ≤ r.countP p := List.countP_mono_left fun b _ hb => h b hb
    simp only [List.countP_cons]
    rcases List.mem_cons.1 hx with rfl | hx
    · simp [hp, hq]; omega
    · have := ih hx
      have h2 := h a
      split <;> split <;> simp_all <;> omega
theorem cntR_mono {D : List PDat} {S S' : List ByteArray} (h : ∀ y ∈ S, y ∈ S') : cntR D S' ≤ cntR D S := List.countP_mono_left fun p _ hp => by
  have hp : has S' p.1 = false := by simpa using hp
  have : has S p.1 = false := has_false.2 fun k => has_false.1 hp (h _ k)
  simp [this]
theorem isIn_mem {D : List PDat} {x : ByteArray} (h : isIn D x = true) : ∃ p ∈ D, p.1 = x := by
  unfold isIn at h
  cases hg : AL.get D x with
  | none => rw [hg] at h; cases h
  | some p => exact ⟨(x, p), AL.get_mem hg, rfl⟩
theorem cntR_add {D : List PDat} {S : List ByteArray} {x : ByteArray} (hx : isIn D x = true) (hs : has S x = false) : cntR D (S ++ [x]) < cntR D S := by
  obtain ⟨p, hp, rfl⟩ := isIn_mem hx
  refine countP_lt (fun a ha => ?_) hp (by simp [hs]) ?_
  · have ha : has (S ++ [p.1]) a.1 = false := by simpa using ha
    have : has S a.1 = false := has_false.2 fun k => has_false.1 ha (List.mem_append_left _ k)
    simp [this]
  · have : has (S ++ [p.1]) p.1 = true := has_iff.2 (by simp)
    simp [this]
structure Found (D : List PDat) (S : List ByteArray) (x : ByteArray) (S' : List ByteArray) : Prop where
  keep : ∀ y ∈ S, y ∈ S'
  has : x ∈ S'
  closed : ∀ y ∈ S', y ∉ S → ∀ z ∈ (getD D y).2, z ∈ S'
  orig : ∀ y ∈ S', y ∉ S → Reached D x y
  len : S'.length + cntR D S' ≤ S.length + cntR D S

abbrev reachFn (r5 r2 r6 : Nat) : Value := .func (.func 102) #[] #[.pointer (some (⟨r5, 0, none⟩ : Addr)), .pointer (some (⟨r2, 0, none⟩ : Addr)), .pointer (some (⟨r6, 0, none⟩ : Addr))]

set_option maxHeartbeats 1000000 in
theorem search_c (w0 : World) (b : Nat) (L : List PRow) (D : List PDat) (hM : MapAt w0 ekS evP b L) (hR : RdP w0 L D) (hin : ∀ x y, y ∈ (getD D x).2 → isIn D y = true) (r2 r5 r6 r7 : Nat) (h7 : w0.heap.size ≤ r7) (h27 : r2 ≠ r7) (h57 : r5 ≠ r7) (h67 : r6 ≠ r7) :
    ∀ (n : Nat) (w : World) (S : List ByteArray) (x : ByteArray), cntR D S ≤ n → isIn D x = true → Pu w0 w → w.heap[r5]? = some (.cells #[.map (some r7)] 82) → w.heap[r2]? = some (.cells #[.map (some b)] 57) → w.heap[r6]? = some (.cells #[reachFn r5 r2 r6] 126) → SetAt w r7 S →
    Calls Try.prog 102 #[.string x, .pointer (some (⟨r5, 0, none⟩ : Addr)), .pointer (some (⟨r2, 0, none⟩ : Addr)), .pointer (some (⟨r6, 0, none⟩ : Addr))] w fun e w' => e = .returned (.tuple #[]) ∧ ∃ S', SetAt w' r7 S' ∧ Found D S x S' ∧ Fr (· = r7) w w' ∧ w'.heap.size = w.heap.size := by
  intro n
  induction n with
  | zero =>
    intro w S x hcnt hx hp hb5 hb2 hb6 hS
    refine F102_calls x _ _ _ w _ ?_
    refine ⟨some r7, by rw [cell_blk hb5]; rfl, _, w, hS.look x, ?_⟩
    refine Br.of (fun h => ?_) (fun h => ?_)
    · exact ⟨rfl, S, hS, ⟨fun y hy => hy, has_iff.1 h, fun y hy hn => absurd hy hn, fun y hy hn => absurd hy hn, Nat.le_refl _⟩, Fr.refl _ _, rfl⟩
    · have := cntR_add hx h; omega
  | succ n ih =>
    intro w S x hcnt hx hp hb5 hb2 hb6 hS
    refine F102_calls x _ _ _ w _ ?_
    refine ⟨some r7, by rw [cell_blk hb5]; rfl, _, w, hS.look x, ?_⟩
    refine Br.of (fun h => ?_) (fun h => ?_)
    · exact ⟨rfl, S, hS, ⟨fun y hy => hy, has_iff.1 h, fun y hy hn => absurd hy hn, fun y hy hn => absurd hy hn, Nat.le_refl _⟩, Fr.refl _ _, rfl⟩
    have hc1 := cntR_add hx h
    refine ⟨some r7, by rw [cell_blk hb5]; rfl, ?_⟩
    obtain ⟨w1, hrun, hS1, hf1, hs1⟩ := hS.add x
    rw [h] at hS1
    have hS1 : SetAt w1 r7 (S ++ [x]) := hS1
    have hp1 : Pu w0 w1 := Pu.andNew hp hf1 fun i hi => by have hi : i = _ := hi; omega
    refine ⟨w1, hrun, ?_⟩
    have hb2' := hf1.blk hb2 h27
    obtain ⟨_, _, hrd⟩ := hR.get x
    have hrd1 := hrd.pu hp1
    have hlen := hrd1.len
    have hlim := hrd1.lim
    refine ⟨some b, by rw [cell_blk hb2']; rfl, _, _, w1, (look57 (hM.pu hp1) x).2, ?_⟩
    refine loopUp (getD D x).2.length (fun k t w' => t = (k : Int) ∧ Fr (· = r7) w w' ∧ w'.heap.size = w.heap.size ∧ ∃ Sk, SetAt w' r7 Sk ∧ (∀ y ∈ S ++ [x], y ∈ Sk) ∧ (∀ y ∈ (getD D x).2.take k, y ∈ Sk) ∧ (∀ y ∈ Sk, y ∉ S ++ [x] → ∀ z ∈ (getD D y).2, z ∈ Sk) ∧ (∀ y ∈ Sk, y ∉ S ++ [x] → Reached D x y) ∧ Sk.length + cntR D Sk ≤ S.length + cntR D S)
      ⟨rfl, hf1, hs1, S ++ [x], hS1, fun y hy => hy, by simp, fun y hy hn => absurd hy hn, fun y hy hn => absurd hy hn, by simp; omega⟩ ?_
    rintro k J t w2 hk ⟨rfl, hf2, hs2, Sk, hSk, q1, q2, q3, q4, q5⟩ hJ
    have hp2 : Pu w0 w2 := Pu.andNew hp hf2 fun i hi => by have hi : i = _ := hi; omega
    refine Br.of (fun hlt => ?_) (fun hge => ?_)
    · have hlt' : k < (getD D x).2.length := by have := dtrue hlt; omega
      obtain ⟨c, hc⟩ := at_k hlt'
      have hcm := List.mem_of_getElem? hc
      obtain ⟨a, ha, hi, hca⟩ := (hrd.pu hp2).str hc
      have hb62 := hf2.blk hb6 h67
      refine ⟨a, ha, by omega, by omega, c, by simpa using hca, reachFn r5 r2 r6, by rw [cell_blk hb62]; rfl, by kernel_rfl, ?_⟩
      refine Calls.mono (ih w2 Sk c (by have := cntR_mono (D := D) q1; omega) (hin x c hcm) hp2 (hf2.blk hb5 h57) (hf2.blk hb2 h27) hb62 hSk) ?_
      rintro e w3 ⟨rfl, S3, hS3, hF, hf3, hs3⟩
      refine ⟨rfl, ?_⟩
      rw [wrap_in (by omega) (by omega)]
      refine hJ _ _ hlt' ⟨rfl, hf2.trans hf3 fun i hi _ => hi, by omega, S3, hS3, fun y hy => hF.keep _ (q1 y hy), fun y hy => ?_, fun y hy hn => ?_, fun y hy hn => ?_, by have := hF.len; omega⟩
      · rw [take_at hc] at hy
        rcases List.mem_append.1 hy with hy | hy
        · exact hF.keep _ (q2 y hy)
        · simp at hy; subst hy; exact hF.has
      · by_cases hyk : y ∈ Sk
        · exact fun z hz => hF.keep _ (q3 y hyk hn z hz)
        · exact hF.closed y hy hyk
      · by_cases hyk : y ∈ Sk
        · exact q4 y hyk hn
        · exact (Reached.call .self hcm).trans (hF.orig y hy hyk)
    · have hge' : ¬ k < (getD D x).2.length := by have := dfalse hge; omega
      rw [List.take_of_length_le (by omega)] at q2
      refine ⟨rfl, Sk, hSk, ⟨fun y hy => q1 y (List.mem_append_left _ hy), q1 x (by simp), fun y hy hn => ?_, fun y hy hn => ?_, q5⟩, hf2, hs2⟩
      · by_cases hyx : y = x
        · subst hyx; exact q2
        · exact q3 y hy (by simp [hn, hyx])
      · by_cases hyx : y = x
        · subst hyx; exact .self
        · exact q4 y hy (by simp [hn, hyx])

theorem reach_c (w : World) (b : Nat) (L : List PRow) (D : List PDat) (hM : MapAt w ekS evP b L) (hR : RdP w L D) (hin : ∀ x y, y ∈ (getD D x).2 → isIn D y = true) (x : ByteArray) (hx : isIn D x = true) : Calls Try.prog 66 #[.map (some b), .string x] w fun e w' => ∃ (r7 : Nat) (S : List ByteArray), e = .returned (.map (some r7)) ∧ SetAt w' r7 S ∧ (∀ y, y ∈ S ↔ Reached D x y) ∧ S.length ≤ D.length ∧ w.heap.size ≤ r7 ∧ Pu w w' := by
  refine F66_calls (some b) x w _ ?_
  refine alE_intro fun w1 hw1 => alE_intro fun w2 hw2 => alE_intro fun w3 hw3 => ?_
  have hp1 : Pu w w1 := by rw [hw1]; exact Pu.alloc w _
  have hp2 : Pu w1 w2 := by rw [hw2]; exact Pu.alloc w1 _
  have hp3 : Pu w2 w3 := by rw [hw3]; exact Pu.alloc w2 _
  have z1 : w1.heap.size = w.heap.size + 1 := by rw [hw1]; simp
  have z2 : w2.heap.size = w1.heap.size + 1 := by rw [hw2]; simp
  have z3 : w3.heap.size = w2.heap.size + 1 := by rw [hw3]; simp
  have hb2 : w1.heap[w.heap.size]? = some (.cells #[.map (some b)] 57) := by rw [hw1]; exact alloc_new w _
  have hS2 : SetAt w2 w1.heap.size [] := by rw [hw2]; exact SetAt.new w1
  have hb5 : w3.heap[w2.heap.size]? = some (.cells #[.map none] 82) := by rw [hw3]; exact alloc_new w2 _
  refine st1_intro hb5 (by show 0 < 1; omega) fun w4 hw4 hb5 => ?_
  have hf4 : Fr (· = w2.heap.size) w3 w4 := by rw [hw4]; exact Fr.cell w3 _ _ _
  have hb5 : w4.heap[w2.heap.size]? = some (.cells #[.map (some w1.heap.size)] 82) := hb5
  have z4 : w4.heap.size = w3.heap.size := by rw [hw4]; simp
  refine alE_intro fun w5 hw5 => ?_
  have hp5 : Pu w4 w5 := by rw [hw5]; exact Pu.alloc w4 _
  have z5 : w5.heap.size = w4.heap.size + 1 := by rw [hw5]; simp
  have hb6 : w5.heap[w4.heap.size]? = some (.cells #[.nilFunc] 126) := by rw [hw5]; exact alloc_new w4 _
  refine st1_intro hb6 (by show 0 < 1; omega) fun w6 hw6 hb6 => ?_
  have hf6 : Fr (· = w4.heap.size) w5 w6 := by rw [hw6]; exact Fr.cell w5 _ _ _
  have z6 : w6.heap.size = w5.heap.size := by rw [hw6]; simp
  have hb6 : w6.heap[w4.heap.size]? = some (.cells #[reachFn w2.heap.size w.heap.size w4.heap.size] 126) := hb6
  have hP4 : Pu w w4 := Pu.andNew ((hp1.trans hp2).trans hp3) hf4 fun i hi => by have hi : i = _ := hi; omega
  have hP6 : Pu w w6 := Pu.andNew (hP4.trans hp5) hf6 fun i hi => by have hi : i = _ := hi; omega
  have hb5 := hf6.blk (hp5.blk hb5) (by show ¬ _ = _; omega)
  have hb2 := hf6.blk (hp5.blk (hf4.blk (hp3.blk (hp2.blk hb2)) (by show ¬ _ = _; omega))) (by show ¬ _ = _; omega)
  have hS6 : SetAt w6 w1.heap.size [] := (((hS2.pu hp3).fr hf4 (by show ¬ _ = _; omega)).pu hp5).fr hf6 (by show ¬ _ = _; omega)
  refine ⟨reachFn w2.heap.size w.heap.size w4.heap.size, by rw [cell_blk hb6]; rfl, by kernel_rfl, ?_⟩
  refine Calls.mono (search_c w b L D hM hR hin w.heap.size w2.heap.size w4.heap.size w1.heap.size (by omega) (by omega) (by omega) (by omega) (cntR D []) w6 [] x (Nat.le_refl _) hx hP6 hb5 hb2 hb6 hS6) ?_
  rintro e w7 ⟨rfl, S, hS, hF, hf7, hs7⟩
  refine ⟨rfl, some w1.heap.size, by rw [cell_blk (hf7.blk hb5 (by show ¬ _ = _; omega))]; rfl, w1.heap.size, S, rfl, hS, fun y => ⟨fun hy => hF.orig y hy (by simp), fun hy => ?_⟩, ?_, by omega, Pu.andNew hP6 hf7 fun i hi => by have hi : i = _ := hi; omega⟩
  · induction hy with
    | self => exact hF.has
    | call _ hz ih => exact hF.closed _ ih (by simp) _ hz
  · have h1 := hF.len
    have h2 : cntR D [] ≤ D.length := List.countP_le_length
    simp at h1
    omega

theorem keys82_c (w : World) (m : Option Nat) : Calls Try.prog 65 #[.map m] w fun e w' => e = .returned (.func (.func 101) #[] #[.pointer (some ⟨w.heap.size, 0, none⟩)]) ∧ w' = w.alloc (.cells #[.map m] 82) := by
  refine F65_calls m w _ ?_
  exact alE_intro fun w' hw' => ⟨rfl, hw'⟩
/-- A set's members, in order. -/
theorem set_sorted {l : List ByteArray} (h : l.Nodup) : (srt l).Pairwise fun a b => bLt a b = true := by
  have h1 := srt_sorted l
  have h2 : (srt l).Nodup := (srt_perm l).symm.nodup h
  refine (h1.and h2).imp fun {a b} h => bLt_of h.1 h.2
theorem fst_true (ks : List ByteArray) : (ks.map fun k => (k, true)).map Prod.fst = ks := by
  induction ks with
  | nil => rfl
  | cons k r ih => rw [List.map_cons, List.map_cons, ih]
theorem SetAt.nodup {w : World} {b : Nat} {ks : List ByteArray} (h : SetAt w b ks) : ks.Nodup := by
  have := MapAt.nodup h
  rwa [fst_true] at this

/-- What is reached, in order. -/
structure ReachL (D : List PDat) (x : ByteArray) (R : List ByteArray) : Prop where
  asc : R.Pairwise fun a b => bLt a b = true
  mem : ∀ y, y ∈ R ↔ Reached D x y
theorem ReachL.eq {D : List PDat} {x : ByteArray} {R R' : List ByteArray} (h : ReachL D x R) (h' : ReachL D x R') : R = R' := asc_ext h.asc h'.asc fun y => (h.mem y).trans (h'.mem y).symm

theorem reaches_c (w : World) (s : SV) (l : List Mod) (hl : RdSl w s l) (hL : Lim.ok l) (name : ByteArray) : Calls Try.prog 29 #[.slice s.a s.len s.cap, .string name] w fun e w' => ∃ (t : SV) (R : List ByteArray), e = .returned (.tuple #[.slice t.a t.len t.cap, .int .i64 (fromE l name)]) ∧ RdSl w' t R ∧ Pu w w' ∧
    (fromE l name ≠ 0 → R = []) ∧ (fromE l name = 0 → ReachL (PL l) name R) := by
  refine F29_calls s name w _ ?_
  refine Calls.mono (openFrom_c w s l hl hL name) ?_
  rintro e w1 ⟨m, rfl, hp1, hO⟩
  refine ⟨m, _, rfl, Br.of (fun h1 => ?_) (fun h1 => ?_)⟩
  · have h1 : fromE l name ≠ 0 := by simpa using h1
    exact ⟨⟨none, 0, 0⟩, [], rfl, RdSl.nil w1 none 0, hp1, fun _ => rfl, fun h => absurd h h1⟩
  have h1 : fromE l name = 0 := by simpa using h1
  obtain ⟨b, L, rfl, hM, hR⟩ := hO h1
  obtain ⟨ho, hin0⟩ := from_open h1
  have hF := fits_of (open_valid ho)
  refine Calls.mono (reach_c w1 b L (PL l) hM hR (fun x y hy => open_in ho hy) name hin0) ?_
  rintro e w2 ⟨r7, S, rfl, hS, hmem, hSl, _, hp2⟩
  refine ⟨some r7, rfl, ?_⟩
  refine Calls.mono (keys82_c w2 (some r7)) ?_
  rintro e w3 ⟨rfl, rfl⟩
  refine ⟨_, rfl, ?_⟩
  have hpl : (PL l).length ≤ 100 := by rw [PL_len hF.callsL]; exact hF.procs
  refine Calls.mono (sortedKeys_101 w2 r7 _ hS (by simp; omega)) ?_
  rintro e w4 ⟨t, rfl, hrow, _, hp4⟩
  rw [fst_true] at hrow
  refine ⟨t, rfl, t, srt S, by rw [h1], rd_of_row hrow (by rw [srt_length]; omega), (hp1.trans hp2).trans hp4, fun h => absurd h1 h, fun _ => ⟨set_sorted hS.nodup, fun y => mem_srt.trans (hmem y)⟩⟩
end Go.Proofs.Ytcnenlmhbpijlaa

/- Link: what is reached from a procedure: the reference's search, with a queue. No condition. -/
set_option maxRecDepth 100000
set_option linter.unusedVariables false
set_option linter.unusedSimpArgs false
namespace Go.Proofs.Ytcnenlmhbpijlaa
open Go.Sh Go.RowKit

/-- A row that a call owns, from some cell on. -/
def QueAt (w : World) (e : TypeId) (s : SV) (vs : List Value) : Prop :=
  vs.length = s.len ∧ s.len ≤ s.cap ∧ s.cap ≤ maxLen ∧ ∃ g off cur, s.a = some ⟨g, off, none⟩ ∧ w.heap[g]? = some (.cells cur e) ∧ off + s.cap ≤ cur.size ∧ (cur.toList.drop off).take s.len = vs
theorem QueAt.fr {B : Nat → Prop} {w w' : World} {e : TypeId} {s : SV} {vs : List Value} (h : QueAt w e s vs) (hf : Fr B w w') (hn : ∀ k ∈ blkOf s, ¬ B k) : QueAt w' e s vs := by
  obtain ⟨h1, h2, h3, g, off, cur, h4, h5, h6⟩ := h
  exact ⟨h1, h2, h3, g, off, cur, h4, hf.blk h5 (hn g (by simp [blkOf, h4])), h6⟩
theorem QueAt.pu {w w' : World} {e : TypeId} {s : SV} {vs : List Value} (h : QueAt w e s vs) (hp : Pu w w') : QueAt w' e s vs := h.fr (Fr.pu hp : Fr (fun _ => False) w w') fun _ _ h => h
theorem QueAt.cell {w : World} {e : TypeId} {s : SV} {vs : List Value} (h : QueAt w e s vs) {j : Nat} {v : Value} (hv : vs[j]? = some v) : ∃ a, s.a = some a ∧ w.cell? (a.add j) = some v := by
  obtain ⟨h1, h2, h3, g, off, cur, h4, h5, h6, h7⟩ := h
  refine ⟨_, h4, ?_⟩
  rw [add_def, cell_blk h5]
  rw [← h7, List.getElem?_take] at hv
  split at hv
  · simpa [List.getElem?_drop] using hv
  · cases hv
theorem QueAt.lt {w : World} {e : TypeId} {s : SV} {vs : List Value} (h : QueAt w e s vs) : ∀ k ∈ blkOf s, k < w.heap.size := fun k hk => by
  obtain ⟨h1, h2, h3, g, off, cur, h4, h5, h6, h7⟩ := h
  simp [blkOf, h4] at hk
  subst hk
  exact blk_lt h5
/-- The first is taken. -/
theorem QueAt.pop {w : World} {e : TypeId} {s : SV} {v : Value} {vs : List Value} (h : QueAt w e s (v :: vs)) : QueAt w e ⟨(if s.cap = (1 : Int).toNat then s.a else s.a.map (fun x => x.add ((1 : Int).toNat * 1))), (s.len - (1 : Int).toNat), (s.cap - (1 : Int).toNat)⟩ vs ∧
    blkOf ⟨(if s.cap = (1 : Int).toNat then s.a else s.a.map (fun x => x.add ((1 : Int).toNat * 1))), (s.len - (1 : Int).toNat), (s.cap - (1 : Int).toNat)⟩ = blkOf s := by
  obtain ⟨h1, h2, h3, g, off, cur, h4, h5, h6, h7⟩ := h
  simp only [List.length_cons] at h1
  have e1 : (1 : Int).toNat = 1 := rfl
  simp only [e1, Nat.mul_one]
  have h8 : (cur.toList.drop (off + 1)).take (s.len - 1) = vs := by
    have := congrArg List.tail h7
    rw [List.tail_cons] at this
    rw [← this, ← List.drop_one, List.drop_take, List.drop_drop]
  by_cases hc : s.cap = 1
  · rw [if_pos hc]
    have hvs : vs = [] := List.eq_nil_of_length_eq_zero (by omega)
    subst hvs
    exact ⟨⟨by show 0 = s.len - 1; omega, by show s.len - 1 ≤ s.cap - 1; omega, by show s.cap - 1 ≤ _; omega, g, off, cur, h4, h5, by show off + (s.cap - 1) ≤ _; omega, by show List.take (s.len - 1) _ = _; rw [show s.len - 1 = 0 by omega]; rfl⟩, rfl⟩
  · rw [if_neg hc, h4]
    refine ⟨⟨by show vs.length = s.len - 1; omega, by show s.len - 1 ≤ s.cap - 1; omega, by show s.cap - 1 ≤ _; omega, g, off + 1, cur, by simp [add_def], h5, by show off + 1 + (s.cap - 1) ≤ _; omega, h8⟩, by simp [blkOf, h4, add_def]⟩
/-- One more. -/
theorem QueAt.push {w : World} {s : SV} {vs : List Value} (h : QueAt w 3 s vs) {a : Addr} {n : Int} (hc : w.cell? a = some (.int .i64 n)) (hb : s.len ≤ 1000000000) :
    ∃ (s' : SV) (w' : World), (Builtin.append_ #[30, 30] 30 #[.slice s.a s.len s.cap, .slice (some a) 1 1]).run Try.prog w = .ok (.slice s'.a s'.len s'.cap) w' ∧ QueAt w' 3 s' (vs ++ [.int .i64 n]) ∧ Fr (· ∈ blkOf s) w w' ∧ (∀ k ∈ blkOf s', k ∈ blkOf s ∨ w.heap.size ≤ k) ∧ s'.len = s.len + 1 := by
  have hq := h
  obtain ⟨h1, h2, h3, g, off, cur, h4, h5, h6, h7⟩ := h
  obtain ⟨i, q1, q2, q3, q4⟩ := info_parts info3
  have hnews : ∀ (j : Nat) (u : Value), [Value.int .i64 n][j]? = some u → w.cell? (a.add j) = some u := fun j u hu => by
    obtain ⟨rfl, rfl⟩ := one_at hu
    simpa [Addr.add] using hc
  by_cases hroom : s.len + 1 ≤ s.cap
  · have hin : off + s.len < cur.size := by omega
    have hr := run_append_room_cells (P := Try.prog) (w := w) 30 30 3 i u30 q1 g off s.len s.cap a 1 1 [.int .i64 n] (by rw [q3]; rfl) hnews (by simp [Value.oneCell']) hroom (fun j hj => by
      have hj : j = 0 := by simpa using hj
      subst hj
      rw [q3, cell_blk h5]; simp; omega) (fun j hj => frozen_blk h5 _)
    rw [q3, Nat.mul_one] at hr
    have hset : w.setCells g (off + s.len) [.int .i64 n] = w.setCell ⟨g, off + s.len, none⟩ (.int .i64 n) := rfl
    rw [hset] at hr
    refine ⟨⟨some ⟨g, off, none⟩, s.len + 1, s.cap⟩, _, by rw [h4]; exact hr, ⟨by simp [h1], hroom, h3, g, off, _, rfl, setCell_blk h5 _ _, by simpa using h6, ?_⟩, (Fr.cell w g _ _).mono fun k hk _ => by simp [blkOf, h4, show k = g from hk], fun k hk => .inl (by simpa [blkOf, h4] using hk), rfl⟩
    rw [Array.toList_setIfInBounds]
    show List.take (s.len + 1) _ = _
    rw [← h7, List.drop_set, if_neg (by omega), show off + s.len - off = s.len by omega]
    apply List.ext_getElem?
    intro j
    have hlt : s.len < (cur.toList.drop off).length := by simp; omega
    by_cases hj : j < s.len
    · rw [List.getElem?_take_of_lt (by omega), List.getElem?_append_left (by simp at hlt ⊢; omega), List.getElem?_take_of_lt hj, List.getElem?_set_ne (by omega)]
    · by_cases hj2 : j = s.len
      · subst hj2
        rw [List.getElem?_take_of_lt (by omega), List.getElem?_append_right (by simp; omega), List.getElem?_set_self hlt]
        simp at hlt ⊢
        rw [show min s.len (cur.size - off) = s.len by omega]
        simp
      · rw [List.getElem?_eq_none (by simp; omega), List.getElem?_eq_none (by simp at hlt ⊢; omega)]
  · have hr := run_append_grow (P := Try.prog) w 30 30 3 i (.int .i64 0) u30 q1 q2 ⟨g, off, none⟩ s.len s.cap vs (by rw [q3, h1, Nat.mul_one]) (fun j u hu => by
      obtain ⟨a', ha', hc'⟩ := hq.cell hu
      rw [h4] at ha'; cases ha'; exact hc') a 1 1 [.int .i64 n] (by rw [q3]; rfl) hnews (by omega) (by omega) (growslice_fits (by omega) (by rw [q4]; omega))
    have hge := grownCap_ge w (s.len + 1) s.cap 3
    have hcm : grownCap w (s.len + 1) s.cap 3 ≤ maxLen := grownCap_le_maxLen w (s.len + 1) s.cap 3 (by unfold maxLen; omega)
    refine ⟨⟨some ⟨w.heap.size, 0, none⟩, s.len + 1, grownCap w (s.len + 1) s.cap 3⟩, _, by rw [h4]; exact hr, ⟨by simp [h1], hge, hcm, w.heap.size, 0, _, rfl, heap_alloc_new w.drew _, ?_, ?_⟩, (Fr.drew w).trans (Fr.alloc w.drew _) fun i hi _ => hi, fun k hk => by simp [blkOf] at hk; omega, rfl⟩
    · have : (Value.int IntKind.i64 0).cells.size = 1 := rfl
      simp only [Array.size_append, List.size_toArray, size_zeroCells, this, h1, List.length_cons, List.length_nil]
      omega
    · simp only [Array.toList_append, List.append_assoc, List.drop_zero]
      rw [← List.append_assoc]
      show List.take (s.len + 1) _ = _
      rw [show s.len + 1 = (vs ++ [Value.int .i64 n]).length by simp [h1]]
      exact List.take_left
end Go.Proofs.Ytcnenlmhbpijlaa

/- Link: what is reached from a procedure: the reference's search, and its Reach. No condition. -/
set_option maxRecDepth 100000
set_option linter.unusedVariables false
set_option linter.unusedSimpArgs false
namespace Go.Proofs.Ytcnenlmhbpijlaa
open Go.Sh Go.RowKit

theorem made_one (z : Value) (n : Nat) : (madeCells #[z] n).toList = List.replicate n z := by
  unfold madeCells
  apply List.ext_getElem
  · simp
  · intro i h1 h2
    simp [Nat.mod_one]
theorem u89 : Try.prog.underlying 89 = some (.slice 4) := by kernel_rfl
theorem info4 : (Try.prog.info? 4).map (fun i => (i.zero, i.size, i.bytes)) = some (some (.bool false), 1, 1) := by kernel_rfl
def boolsV (R : List RP) (V : List ByteArray) : List Value := R.map fun r => Value.bool (has V r.name)
theorem boolsV_len (R : List RP) (V : List ByteArray) : (boolsV R V).length = R.length := by simp [boolsV]
theorem boolsV_set {R : List RP} (hn : (R.map (·.name)).Nodup) {V : List ByteArray} {k : Nat} {r : RP} (hr : R[k]? = some r) : (boolsV R V).set k (.bool true) = boolsV R (V ++ [r.name]) := by
  have hkl := (List.getElem?_eq_some_iff.1 hr).1
  apply List.ext_getElem?
  intro i
  rw [List.getElem?_set, boolsV, boolsV, List.getElem?_map, List.getElem?_map]
  by_cases hi : k = i
  · subst hi
    rw [if_pos rfl, if_pos (by simpa using hkl), hr]
    have : has (V ++ [r.name]) r.name = true := has_iff.2 (by simp)
    simp [this]
  · rw [if_neg hi]
    cases hx : R[i]? with
    | none => rfl
    | some x =>
      have hne : x.name ≠ r.name := fun e => hi (by
        have h1 : (R.map (·.name))[k]? = some r.name := by rw [List.getElem?_map, hr]; rfl
        have h2 : (R.map (·.name))[i]? = some r.name := by rw [List.getElem?_map, hx]; simp [e]
        exact (List.getElem?_inj (by simpa using hkl) hn).1 (h1.trans h2.symm))
      have : has (V ++ [r.name]) x.name = has V x.name := by
        rw [Bool.eq_iff_iff, has_iff, has_iff]; simp [hne]
      simp [this]
theorem que_snoc (R : List RP) (q : List ByteArray) (c : ByteArray) : ((q ++ [c]).map fun x => Value.int .i64 (findS R x)) = (q.map fun x => Value.int .i64 (findS R x)) ++ [.int .i64 (findS R c)] := by simp

set_option maxHeartbeats 2000000 in
theorem rSearch_c (w : World) (s : SV) (R : List RP) (hRd : RdSl w s R) (hnd : (R.map (·.name)).Nodup) (hin : ∀ x y, y ∈ (getD (R.map RP.dat) x).2 → isIn (R.map RP.dat) y = true) (hcl : ∀ x, (getD (R.map RP.dat) x).2.length ≤ 100) (hl : R.length ≤ 100) (name : ByteArray) (hname : isIn (R.map RP.dat) name = true) :
    Calls Try.prog 67 #[.slice s.a s.len s.cap, .int .i64 (findS R name)] w fun e w' => ∃ (t : SV) (V : List ByteArray), e = .returned (.slice t.a t.len t.cap) ∧ RowAt w' 4 1 t (boolsV R V) ∧ (∀ y, y ∈ V ↔ Reached (R.map RP.dat) name y) ∧ Pu w w' := by
  refine F67_calls s _ w _ ?_
  have hlen := hRd.len
  generalize hD : R.map RP.dat = D at hin hcl hname ⊢
  obtain ⟨i, q1, q2, q3, q4⟩ := info_parts info4
  obtain ⟨w1, hmk, hrow1, hp1, hs1⟩ := row_make (P := Try.prog) (w := w) u89 q1 q2 q3 .i64 .i64 s.len (by rw [q4]; omega) (by omega)
  have hrow1 : RowAt w1 4 1 ⟨some ⟨w.heap.size, 0, none⟩, s.len, s.len⟩ (boolsV R []) := by
    have e : (madeCells (Value.bool false).cells (s.len * 1)).toList = boolsV R [] := by
      rw [show (Value.bool false).cells = #[.bool false] from rfl, made_one, Nat.mul_one, hlen]
      simp only [boolsV, has_false.2 (List.not_mem_nil)]
      rw [List.map_const']
    rw [← e]; exact hrow1
  refine ⟨⟨some ⟨w.heap.size, 0, none⟩, s.len, s.len⟩, w1, hmk, ?_⟩
  refine alE_intro fun w2 hw2 => ?_
  have hp2 : Pu w1 w2 := by rw [hw2]; exact Pu.alloc w1 _
  have hn2 : w2.heap[w1.heap.size]? = some (.cells #[.int .i64 (findS R name)] 3) := by rw [hw2]; exact alloc_new w1 _
  have hQ0 : QueAt w2 3 ⟨some ⟨w1.heap.size, 0, none⟩, 1, 1⟩ ([name].map fun x => Value.int .i64 (findS R x)) := ⟨rfl, Nat.le_refl _, by show 1 ≤ maxLen; unfold maxLen; omega, w1.heap.size, 0, _, rfl, hn2, Nat.le_refl _, rfl⟩
  have hcnt0 : cntR D [] ≤ 100 := by
    have h1 : cntR D [] ≤ D.length := List.countP_le_length
    rw [← hD, List.length_map] at h1
    rw [← hD]; omega
  refine loopDown (cntR D [] * 101 + 1) (fun n t w' => ∃ V q : List ByteArray, n = cntR D V * 101 + q.length ∧ n ≤ 20000 ∧ Pu w w' ∧ RowAt w' 4 1 ⟨some ⟨w.heap.size, 0, none⟩, s.len, s.len⟩ (boolsV R V) ∧ QueAt w' 3 t (q.map fun x => Value.int .i64 (findS R x)) ∧ (∀ i ∈ blkOf t, w.heap.size < i) ∧
      (∀ x ∈ q, isIn D x = true ∧ Reached D name x) ∧ (∀ y ∈ V, Reached D name y) ∧ (name ∈ V ∨ name ∈ q) ∧ ∀ y ∈ V, ∀ z ∈ (getD D y).2, z ∈ V ∨ z ∈ q)
    ⟨[], [name], rfl, by omega, hp1.trans hp2, hrow1.pu hp2, hQ0, fun i hi => by simp [blkOf] at hi; omega, fun x hx => by simp at hx; subst hx; exact ⟨hname, .self⟩, by simp, .inr (by simp), by simp⟩ ?_
  rintro n J l6 w3 ⟨V, q, rfl, hn, hp3, hrow3, hQ3, hf3, g1, g2, g3, g4⟩ hJ
  have hql : l6.len = q.length := by have := hQ3.1; simpa using this.symm
  refine Br.of (fun hlt => ?_) (fun hge => ?_)
  · obtain ⟨x, rest, rfl⟩ : ∃ x rest, q = x :: rest := by
      cases q with
      | nil => have := dtrue hlt; simp at hql; omega
      | cons x r => exact ⟨x, r, rfl⟩
    obtain ⟨hxin, hxr⟩ := g1 x List.mem_cons_self
    obtain ⟨k, r, e1, e2, e3, e4⟩ := findS_at (R := R) (x := x) (by rw [hD]; exact hxin)
    rw [hD] at e4
    have hkl := (List.getElem?_eq_some_iff.1 e2).1
    obtain ⟨a8, ha8, hc8⟩ := hQ3.cell (j := 0) (v := .int .i64 (findS R x)) rfl
    have hbk : (boolsV R V)[k]? = some (.bool (has V x)) := by rw [boolsV, List.getElem?_map, e2]; simp [e3]
    obtain ⟨a9, ha9, hc9, _⟩ := hrow3.cell hbk
    obtain ⟨hpop, hbp⟩ := QueAt.pop (s := l6) (v := .int .i64 (findS R x)) (vs := rest.map fun x => Value.int .i64 (findS R x)) hQ3
    have hcap : l6.len ≤ l6.cap := hQ3.2.1
    simp only [List.length_cons] at hql hn
    have hpl : (⟨(if l6.cap = (1 : Int).toNat then l6.a else l6.a.map (fun x => x.add ((1 : Int).toNat * 1))), (l6.len - (1 : Int).toNat), (l6.cap - (1 : Int).toNat)⟩ : SV).len = rest.length := by show l6.len - 1 = _; omega
    refine ⟨a8, ha8, by omega, by omega, findS R x, by simpa using hc8, hcap, by omega, by show 1 ≤ l6.len; omega, a9, ha9, by omega, by rw [e1]; show (k : Int) < ((s.len : Nat) : Int); omega, has V x, by rw [e1, Int.toNat_natCast, Nat.mul_one]; exact hc9, ?_⟩
    refine Br.of (fun h => ?_) (fun h => ?_)
    · have hxV : x ∈ V := has_iff.1 h
      refine hJ (cntR D V * 101 + rest.length) _ _ (by simp) ⟨V, rest, rfl, by omega, hp3, hrow3, hpop, fun i hi => hf3 i (by rw [← hbp]; exact hi), fun y hy => g1 y (List.mem_cons_of_mem _ hy), g2, ?_, fun y hy z hz => ?_⟩
      · rcases g3 with h | h
        · exact .inl h
        · rcases List.mem_cons.1 h with rfl | h
          · exact .inl hxV
          · exact .inr h
      · rcases g4 y hy z hz with h | h
        · exact .inl h
        · rcases List.mem_cons.1 h with rfl | h
          · exact .inl hxV
          · exact .inr h
    · have hcnt := cntR_add hxin h
      obtain ⟨a10, ha10, hst⟩ := hrow3.st1 (j := k) (by rw [boolsV_len]; exact hkl) (.bool true) (K := fun w11 => F67_4 (fun e w' => ∃ (t : SV) (V : List ByteArray), e = .returned (.slice t.a t.len t.cap) ∧ RowAt w' 4 1 t (boolsV R V) ∧ (∀ y, y ∈ V ↔ Reached D name y) ∧ Pu w w') J s ⟨some ⟨w.heap.size, 0, none⟩, s.len, s.len⟩ ⟨(if l6.cap = (1 : Int).toNat then l6.a else l6.a.map (fun x => x.add ((1 : Int).toNat * 1))), (l6.len - (1 : Int).toNat), (l6.cap - (1 : Int).toNat)⟩ (findS R x) 0 [] w11) fun w4 hr4 hf4 hs4 => by
        rw [boolsV_set hnd e2, e3] at hr4
        have hB4 : ∀ i ∈ blkOf (⟨some ⟨w.heap.size, 0, none⟩, s.len, s.len⟩ : SV), w.heap.size ≤ i := fun i hi => by simp [blkOf] at hi; omega
        have hp4 : Pu w w4 := Pu.andNew hp3 hf4 hB4
        have hq4 := hpop.fr hf4 fun i hi h => by rw [hbp] at hi; have := hf3 i hi; simp [blkOf] at h; omega
        have hcalls : (getD D x).2 = r.calls := by rw [← e4]
        have hc100 := hcl x
        rw [hcalls] at hc100
        refine loopUp r.calls.length (fun j t w' => t.2 = (j : Int) ∧ Pu w w' ∧ RowAt w' 4 1 ⟨some ⟨w.heap.size, 0, none⟩, s.len, s.len⟩ (boolsV R (V ++ [x])) ∧ QueAt w' 3 t.1 ((rest ++ r.calls.take j).map fun x => Value.int .i64 (findS R x)) ∧ ∀ i ∈ blkOf t.1, w.heap.size < i)
          ⟨rfl, hp4, hr4, by simpa using hq4, fun i hi => hf3 i (by rw [← hbp]; exact hi)⟩ ?_
        rintro j J2 ⟨l6', t⟩ w5 hj ⟨ht, hp5, hr5, hQ5, hf5⟩ hJ2
        obtain rfl : t = (j : Int) := ht
        have hQ5 : QueAt w5 3 l6' ((rest ++ r.calls.take j).map fun x => Value.int .i64 (findS R x)) := hQ5
        have hf5 : ∀ i ∈ blkOf l6', w.heap.size < i := hf5
        dsimp only
        obtain ⟨a, tc, ha, hi, htc, c0, c1, c2, c3⟩ := rpAt (hRd.pu hp5) e2
        have htl := htc.len
        rw [e1]
        refine ⟨a, ha, by omega, by omega, tc, by simpa using c3, Br.of (fun hlt2 => ?_) (fun hge2 => ?_)⟩
        · have hlt2' : j < r.calls.length := by have := dtrue hlt2; omega
          obtain ⟨c, hc⟩ := at_k hlt2'
          obtain ⟨a4, ha4, hi4, hc4⟩ := htc.str hc
          refine ⟨a, ha, by omega, by omega, tc, by simpa using c3, a4, ha4, by omega, by omega, c, by simpa using hc4, ?_⟩
          refine Calls.mono (find_c w5 s R (hRd.pu hp5) c) ?_
          rintro e w6 ⟨rfl, rfl⟩
          refine ⟨_, rfl, ?_⟩
          refine alE_intro fun w7 hw7 => ?_
          have hp7 : Pu w6 w7 := by rw [hw7]; exact Pu.alloc w6 _
          have hn7 : w7.heap[w6.heap.size]? = some (.cells #[.int .i64 (findS R c)] 3) := by rw [hw7]; exact alloc_new w6 _
          have hl6 : l6'.len ≤ 1000000 := by
            have := hQ5.1
            simp at this
            omega
          obtain ⟨l51, w8, hra, hQ8, hf8, hblk8, _⟩ := (hQ5.pu hp7).push (a := ⟨w6.heap.size, 0, none⟩) (n := findS R c) (by rw [cell_blk hn7]; rfl) (by omega)
          refine ⟨l51, w8, hra, ?_⟩
          rw [wrap_in (n := (j : Int) + 1) (by omega) (by omega)]
          have hs5 := hp5.size
          have hs7 := hp7.size
          have hrl := hr5.lt w.heap.size (by simp [blkOf])
          refine hJ2 _ _ hlt2' ⟨rfl, Pu.andNew (hp5.trans hp7) hf8 fun i hi => by have := hf5 i hi; omega, (hr5.pu hp7).fr hf8 fun i hi h => by simp [blkOf] at hi; have := hf5 i h; omega, ?_, fun i hi => ?_⟩
          · show QueAt w8 3 l51 _
            rw [take_at hc, ← List.append_assoc, que_snoc]
            exact hQ8
          · rcases hblk8 i hi with h | h
            · exact hf5 i h
            · omega
        · have hge2' : ¬ j < r.calls.length := by have := dfalse hge2; omega
          rw [take_end hj hge2'] at hQ5
          show J _ _
          refine hJ (cntR D (V ++ [x]) * 101 + (rest ++ r.calls).length) _ _ (by simp; omega) ⟨V ++ [x], rest ++ r.calls, rfl, by simp; omega, hp5, hr5, hQ5, hf5, fun y hy => ?_, fun y hy => ?_, ?_, fun y hy z hz => ?_⟩
          · rcases List.mem_append.1 hy with hy | hy
            · exact g1 y (List.mem_cons_of_mem _ hy)
            · rw [← hcalls] at hy
              exact ⟨hin x y hy, .call hxr hy⟩
          · rcases List.mem_append.1 hy with hy | hy
            · exact g2 y hy
            · simp at hy; subst hy; exact hxr
          · rcases g3 with h | h
            · exact .inl (List.mem_append_left _ h)
            · rcases List.mem_cons.1 h with rfl | h
              · exact .inl (by simp)
              · exact .inr (List.mem_append_left _ h)
          · rcases List.mem_append.1 hy with hy | hy
            · rcases g4 y hy z hz with h | h
              · exact .inl (List.mem_append_left _ h)
              · rcases List.mem_cons.1 h with rfl | h
                · exact .inl (by simp)
                · exact .inr (List.mem_append_left _ h)
            · simp at hy; subst hy
              rw [hcalls] at hz
              exact .inr (List.mem_append_right _ hz)
      rw [e1]
      rw [e1] at hst
      refine ⟨a10, ha10, by omega, by show (k : Int) < ((s.len : Nat) : Int); omega, ?_⟩
      rw [Int.toNat_natCast, Nat.mul_one]
      exact hst
  · have hq0 : q = [] := List.eq_nil_of_length_eq_zero (by have := dfalse hge; omega)
    subst hq0
    refine ⟨⟨some ⟨w.heap.size, 0, none⟩, s.len, s.len⟩, V, rfl, hrow3, fun y => ⟨g2 y, fun hy => ?_⟩, hp3⟩
    have hnV : name ∈ V := by simpa using g3
    induction hy with
    | self => exact hnV
    | call _ hz ih => simpa using g4 _ ih _ hz
end Go.Proofs.Ytcnenlmhbpijlaa

/- Link: the reference's Reach; rows that stand apart; what is left of modules. No condition. -/
set_option maxRecDepth 100000
set_option linter.unusedVariables false
set_option linter.unusedSimpArgs false
namespace Go.Proofs.Ytcnenlmhbpijlaa
open Go.Sh Go.RowKit

theorem RL_names {l : List Mod} (hF : Fits l) : ((RL l).map (·.name)).Nodup := by
  have h1 : ((RL l).map RP.dat).map Prod.fst = (RL l).map (·.name) := by rw [List.map_map]; rfl
  rw [← h1, RL_dat hF.sizes, PL_keys hF.callsL]
  exact hF.nodup
theorem getD_len {l : List Mod} (hF : Fits l) (x : ByteArray) : (getD (PL l) x).2.length ≤ 100 := by
  unfold getD
  cases hg : AL.get (PL l) x with
  | none => simp
  | some p =>
    obtain ⟨m, hm, _, _, hc⟩ := PL_mem (AL.get_mem hg)
    exact hF.calls m hm _ hc
theorem rSearch_l (w : World) (t : SV) (l : List Mod) (hR : RdSl w t (RL l)) (ho : openE l = 0) (name : ByteArray) (hname : isIn (PL l) name = true) :
    Calls Try.prog 67 #[.slice t.a t.len t.cap, .int .i64 (findS (RL l) name)] w fun e w' => ∃ (t : SV) (V : List ByteArray), e = .returned (.slice t.a t.len t.cap) ∧ RowAt w' 4 1 t (boolsV (RL l) V) ∧ (∀ y, y ∈ V ↔ Reached (PL l) name y) ∧ Pu w w' := by
  have hF := fits_of (open_valid ho)
  have hdat := RL_dat hF.sizes
  have := rSearch_c w t (RL l) hR (RL_names hF) (by rw [hdat]; exact fun x y hy => open_in ho hy) (by rw [hdat]; exact getD_len hF) (by rw [RL_len hF]; exact hF.procs) name (by rw [hdat]; exact hname)
  rwa [hdat] at this
theorem Reached.isIn {l : List Mod} (ho : openE l = 0) {x y : ByteArray} (hx : isIn (PL l) x = true) (h : Reached (PL l) x y) : isIn (PL l) y = true := by
  cases h with
  | self => exact hx
  | call _ hz => exact open_in ho hz

set_option maxHeartbeats 1000000 in
theorem rReaches_c (w : World) (s : SV) (l : List Mod) (hl : RdSl w s l) (name : ByteArray) : Calls Try.prog 30 #[.slice s.a s.len s.cap, .string name] w fun e w' => ∃ (t : SV) (R : List ByteArray), e = .returned (.tuple #[.slice t.a t.len t.cap, .int .i64 (fromE l name)]) ∧ RdSl w' t R ∧ Pu w w' ∧
    (fromE l name ≠ 0 → R = []) ∧ (fromE l name = 0 → ReachL (PL l) name R) := by
  refine F30_calls s name w _ ?_
  refine Calls.mono (rFrom_c w s l hl name) ?_
  rintro e w1 ⟨t8, n0, rfl, hp1, hO⟩
  refine ⟨t8, n0, _, rfl, Br.of (fun h1 => ?_) (fun h1 => ?_)⟩
  · have h1 : fromE l name ≠ 0 := by simpa using h1
    exact ⟨⟨none, 0, 0⟩, [], rfl, RdSl.nil w1 none 0, hp1, fun _ => rfl, fun h => absurd h h1⟩
  have h1 : fromE l name = 0 := by simpa using h1
  obtain ⟨hR, rfl⟩ := hO h1
  obtain ⟨ho, hin0⟩ := from_open h1
  have hF := fits_of (open_valid ho)
  refine Calls.mono (rSearch_l w1 t8 l hR ho name hin0) ?_
  rintro e w2 ⟨t9, V, rfl, hrow, hV, hp2⟩
  refine ⟨t9, rfl, ?_⟩
  have hRl : (RL l).length ≤ 100 := by rw [RL_len hF]; exact hF.procs
  have hlen := hR.len
  have ht9 : t9.len = (RL l).length := by have := hrow.1; rw [boolsV_len] at this; omega
  refine loopUp (RL l).length (fun k t w' => t.2 = (k : Int) ∧ Pu w2 w' ∧ RowAt w' 9 1 t.1 (strV ((((RL l).take k).filter fun r => has V r.name).map (·.name))) ∧ ∀ i ∈ blkOf t.1, w2.heap.size ≤ i)
    ⟨rfl, Pu.refl w2, RowAt.nil _ _ _, by simp [blkOf]⟩ ?_
  rintro k J ⟨l10, t⟩ w3 hk ⟨ht, hp3, hr3, hf3⟩ hJ
  obtain rfl : t = (k : Int) := ht
  have hr3 : RowAt w3 9 1 l10 (strV ((((RL l).take k).filter fun r => has V r.name).map (·.name))) := hr3
  have hf3 : ∀ i ∈ blkOf l10, w2.heap.size ≤ i := hf3
  dsimp only
  have hl10 : l10.len ≤ 100 := by
    have h1 := hr3.1
    have h2 := List.length_filter_le (fun r => has V r.name) ((RL l).take k)
    have h3 : ((RL l).take k).length ≤ (RL l).length := by simp; omega
    simp at h1 h2 h3
    omega
  refine Br.of (fun hlt => ?_) (fun hge => ?_)
  · have hlt' : k < (RL l).length := by have := dtrue hlt; omega
    obtain ⟨r, hr⟩ := at_k hlt'
    have hbk : (boolsV (RL l) V)[k]? = some (.bool (has V r.name)) := by rw [boolsV, List.getElem?_map, hr]; rfl
    obtain ⟨a9, ha9, hc9, _⟩ := (hrow.pu hp3).cell hbk
    refine ⟨a9, ha9, by omega, by omega, has V r.name, by simpa using hc9, Br.of (fun h => ?_) (fun h => ?_)⟩
    · obtain ⟨a, t, ha, hi, ht, c0, c1, c2, c3⟩ := rpAt (hR.pu (hp2.trans hp3)) hr
      refine ⟨a, ha, by omega, by omega, r.name, by simpa using c0, ?_⟩
      refine alE_intro fun w4 hw4 => ?_
      have hp4 : Pu w3 w4 := by rw [hw4]; exact Pu.alloc w3 _
      have hn4 : w4.heap[w3.heap.size]? = some (.cells #[.string r.name] 9) := by rw [hw4]; exact alloc_new w3 _
      obtain ⟨l42, w5, hra, hrow5, hf5, hblk5, _⟩ := row_push (P := Try.prog) (ty := 23) (t := 23) u23 info_str rfl (s := l10) (hr3.pu hp4) (a := ⟨w3.heap.size, 0, none⟩) (u := .string r.name) (by rw [cell_blk hn4]; rfl) rfl (by omega)
      refine ⟨l42, w5, hra, ?_⟩
      rw [wrap_in (n := (k : Int) + 1) (by omega) (by omega)]
      have hs3 := hp3.size
      have hs4 := hp4.size
      refine hJ _ _ hlt' ⟨rfl, Pu.andNew (hp3.trans hp4) hf5 hf3, ?_, fun i hi => ?_⟩
      · show RowAt w5 9 1 l42 _
        rw [take_at hr, List.filter_append, List.filter_cons, if_pos h, List.filter_nil, List.map_append]
        simpa [strV] using hrow5
      · rcases hblk5 i hi with h' | h'
        · exact hf3 i h'
        · omega
    · rw [wrap_in (n := (k : Int) + 1) (by omega) (by omega)]
      refine hJ _ _ hlt' ⟨rfl, hp3, ?_, hf3⟩
      show RowAt w3 9 1 l10 _
      rw [take_at hr, List.filter_append, List.filter_cons, if_neg (by rw [h]; simp), List.filter_nil, List.append_nil]
      exact hr3
  · have hge' : ¬ k < (RL l).length := by have := dfalse hge; omega
    rw [take_end hk hge'] at hr3
    have hll : (((RL l).filter fun r => has V r.name).map (·.name)).length ≤ 100 := by
      have h2 := List.length_filter_le (fun r => has V r.name) (RL l)
      simp at h2 ⊢
      omega
    refine Calls.mono (set_c w3 l10 _ (rd_of_row hr3 (by omega)) (by omega)) ?_
    rintro e w4 ⟨t4, rfl, ht4, hrow4, _, hp4⟩
    have hsl : (setS (((RL l).filter fun r => has V r.name).map (·.name))).length ≤ 100 := by
      have h1 := cptFrom_len (srt (((RL l).filter fun r => has V r.name).map (·.name))) none
      rw [srt_length] at h1
      exact Nat.le_trans h1 hll
    refine ⟨t4, rfl, t4, _, by rw [h1], rd_of_row hrow4 (by omega), ((hp1.trans hp2).trans hp3).trans hp4, fun h => absurd h1 h, fun _ => ⟨setS_sorted _, fun y => ?_⟩⟩
    rw [mem_setS, List.mem_map]
    constructor
    · rintro ⟨r, hr, rfl⟩
      exact (hV _).1 (has_iff.1 (List.mem_filter.1 hr).2)
    · intro hy
      have hyin := Reached.isIn ho hin0 hy
      rw [← RL_dat hF.sizes] at hyin
      obtain ⟨k', r, _, hr, hrn, _⟩ := findS_at hyin
      exact ⟨r, List.mem_filter.2 ⟨List.mem_of_getElem? hr, has_iff.2 ((hV _).2 (by rw [hrn]; exact hy))⟩, hrn⟩

/-! ### Rows that stand apart -/
structure Own1 where
  e : TypeId
  s : SV
  vs : List Value
def Fam (w : World) (N : Nat) (L : List Own1) : Prop := (∀ (k : Nat) (o : Own1), L[k]? = some o → RowAt w o.e 1 o.s o.vs ∧ ∀ i ∈ blkOf o.s, N ≤ i) ∧ ∀ (i j : Nat) (a b : Own1), L[i]? = some a → L[j]? = some b → i ≠ j → ∀ x ∈ blkOf a.s, x ∉ blkOf b.s
theorem Fam.fr {w w' : World} {N : Nat} {L : List Own1} {B : Nat → Prop} (h : Fam w N L) (hf : Fr B w w') (hB : ∀ i, B i → i < N) : Fam w' N L :=
  ⟨fun k o hk => ⟨(h.1 k o hk).1.fr hf fun i hi hb => by have := (h.1 k o hk).2 i hi; have := hB i hb; omega, (h.1 k o hk).2⟩, h.2⟩
theorem Fam.pu {w w' : World} {N : Nat} {L : List Own1} (h : Fam w N L) (hp : Pu w w') : Fam w' N L := h.fr (Fr.pu hp : Fr (fun _ => False) w w') fun _ h => h.elim
theorem Fam.upd {w w' : World} {N : Nat} {L : List Own1} (h : Fam w N L) {k : Nat} {o : Own1} (hk : L[k]? = some o) {s' : SV} {vs' : List Value} (hr : RowAt w' o.e 1 s' vs') (hf : Fr (· ∈ blkOf o.s) w w') (hb : ∀ i ∈ blkOf s', i ∈ blkOf o.s ∨ w.heap.size ≤ i) (hN : N ≤ w.heap.size) : Fam w' N (L.set k ⟨o.e, s', vs'⟩) := by
  have hkl := (List.getElem?_eq_some_iff.1 hk).1
  have other : ∀ j b, j ≠ k → (L.set k ⟨o.e, s', vs'⟩)[j]? = some b → L[j]? = some b := fun j b hj hb => by
    rw [List.getElem?_set_ne (Ne.symm hj)] at hb; exact hb
  have self : ∀ b, (L.set k ⟨o.e, s', vs'⟩)[k]? = some b → b = ⟨o.e, s', vs'⟩ := fun b hb => by
    rw [List.getElem?_set_self hkl] at hb; exact (Option.some.inj hb).symm
  have apart : ∀ j b, j ≠ k → L[j]? = some b → ∀ x ∈ blkOf s', x ∉ blkOf b.s := fun j b hj hbj x hx hxb => by
    rcases hb x hx with h' | h'
    · exact h.2 k j o b hk hbj (Ne.symm hj) x h' hxb
    · have := (h.1 j b hbj).1.lt x hxb; omega
  refine ⟨fun j b hj => ?_, fun i j a b hi hj hij x hx hxb => ?_⟩
  · by_cases hjk : j = k
    · subst hjk
      have := self b hj; subst this
      refine ⟨hr, fun i hi => ?_⟩
      rcases hb i hi with h' | h'
      · exact (h.1 _ o hk).2 i h'
      · omega
    · have hb0 := other j b hjk hj
      exact ⟨(h.1 j b hb0).1.fr hf fun i hi hB => h.2 j k b o hb0 hk hjk i hi hB, (h.1 j b hb0).2⟩
  · by_cases hik : i = k
    · subst hik
      have := self a hi; subst this
      exact apart j b (Ne.symm hij) (other j b (Ne.symm hij) hj) x hx hxb
    · by_cases hjk : j = k
      · subst hjk
        have := self b hj; subst this
        exact apart i a hik (other i a hik hi) x hxb hx
      · exact h.2 i j a b (other i a hik hi) (other j b hjk hj) hij x hx hxb
theorem Fam.add {w w' : World} {N : Nat} {L : List Own1} (h : Fam w N L) (hp : Pu w w') {o : Own1} (hr : RowAt w' o.e 1 o.s o.vs) (hb : ∀ i ∈ blkOf o.s, w.heap.size ≤ i) (hN : N ≤ w.heap.size) : Fam w' N (L ++ [o]) := by
  have split : ∀ j b, (L ++ [o])[j]? = some b → (j < L.length ∧ L[j]? = some b) ∨ (j = L.length ∧ b = o) := fun j b hj => by
    by_cases hjl : j < L.length
    · rw [List.getElem?_append_left hjl] at hj; exact .inl ⟨hjl, hj⟩
    · have := (List.getElem?_eq_some_iff.1 hj).1
      simp at this
      have hje : j = L.length := by omega
      subst hje
      rw [List.getElem?_append_right (Nat.le_refl _), Nat.sub_self] at hj
      simp at hj
      exact .inr ⟨rfl, hj.symm⟩
  refine ⟨fun j b hj => ?_, fun i j a b hi hj hij x hx hxb => ?_⟩
  · rcases split j b hj with ⟨_, hj⟩ | ⟨_, rfl⟩
    · exact ⟨(h.1 j b hj).1.pu hp, (h.1 j b hj).2⟩
    · exact ⟨hr, fun i hi => by have := hb i hi; omega⟩
  · rcases split i a hi with ⟨_, hi1⟩ | ⟨hi0, ha⟩ <;> rcases split j b hj with ⟨_, hj1⟩ | ⟨hj0, hbo⟩
    · exact h.2 i j a b hi1 hj1 hij x hx hxb
    · rw [hbo] at hxb; have := (h.1 i a hi1).1.lt x hx; have := hb x hxb; omega
    · rw [ha] at hx; have := (h.1 j b hj1).1.lt x hxb; have := hb x hx; omega
    · omega

/-! ### What is left -/
def keepR (V : List ByteArray) (L : List RP) : List RP := L.filter fun r => has V r.name
def modOf (m : Mod) (f : List RP) : Mod := ⟨m.name, m.ov, f.map (·.name), f.map (·.size), f.map (·.calls)⟩
def trimL (V : List ByteArray) (l : List Mod) : List Mod := (l.map fun m => modOf m (keepR V (rpOf m))).filter fun m => decide (0 < m.procs.length)
theorem trimL_ext {V V' : List ByteArray} (h : ∀ y, y ∈ V ↔ y ∈ V') (l : List Mod) : trimL V l = trimL V' l := by
  have : has V = has V' := funext fun y => by rw [Bool.eq_iff_iff, has_iff, has_iff]; exact h y
  unfold trimL keepR; rw [this]
theorem trimL_snoc (V : List ByteArray) (l : List Mod) (m : Mod) : trimL V (l ++ [m]) = trimL V l ++ (if 0 < (keepR V (rpOf m)).length then [modOf m (keepR V (rpOf m))] else []) := by
  unfold trimL
  rw [List.map_append, List.filter_append]
  congr 1
  simp only [List.map_cons, List.map_nil, List.filter_cons, List.filter_nil, modOf, List.length_map]
  by_cases h : 0 < (keepR V (rpOf m)).length <;> simp [h]
/-- The rows of a module that is being made. -/
def famOf (f : List RP) (p z c : SV) (cs : List SV) : List Own1 := ⟨9, p, strV (f.map (·.name))⟩ :: ⟨3, z, intV (f.map (·.size))⟩ :: ⟨23, c, cs.map slV⟩ :: ((cs.zip f).map fun q => ⟨9, q.1, strV q.2.calls⟩)
theorem own_of_fam {w : World} {N : Nat} {m : Mod} {f : List RP} {p z c : SV} {cs : List SV} (h : Fam w N (famOf f p z c cs)) (hl : cs.length = f.length) (hov : -9223372036854775808 ≤ m.ov ∧ m.ov ≤ 9223372036854775807) (hsz : ∀ r ∈ f, 1 ≤ r.size ∧ r.size ≤ 10000) (hcl : ∀ r ∈ f, r.calls.length ≤ 100) (hf : f.length ≤ 100) : OwnMod w (modOf m f) p z c (fun i => N ≤ i) := by
  have h0 := h.1 0 _ rfl
  have h1 := h.1 1 _ rfl
  have h2 := h.1 2 _ rfl
  refine ⟨hov, fun x hx => ?_, ⟨by simp [modOf]; omega, by simp [modOf]; omega, by simp [modOf]; omega, fun x hx => ?_⟩, h0, h1, cs, by simp [modOf, hl], h2.1, h2.2, fun i t x ht hx => ?_⟩
  · obtain ⟨r, hr, rfl⟩ := List.mem_map.1 (show x ∈ f.map (·.size) from hx)
    have := hsz r hr; omega
  · obtain ⟨r, hr, rfl⟩ := List.mem_map.1 (show x ∈ f.map (·.calls) from hx)
    have := hcl r hr; omega
  · have hx : (f.map (·.calls))[i]? = some x := hx
    rw [List.getElem?_map] at hx
    obtain ⟨r, hr, rfl⟩ := Option.map_eq_some_iff.1 hx
    have h3 := h.1 (i + 3) ⟨9, t, strV r.calls⟩ (by
      show ((cs.zip f).map fun q => (⟨9, q.1, strV q.2.calls⟩ : Own1))[i]? = _
      rw [List.getElem?_map, show (cs.zip f)[i]? = some (t, r) from by rw [List.getElem?_zip_eq_some]; exact ⟨ht, hr⟩]; rfl)
    exact h3
end Go.Proofs.Ytcnenlmhbpijlaa
