/- Link: lists and modules compared, by the program's Same and the reference's: exactly. No condition. -/
import Derived.Test.YtcnenlmhbpijlaaLkU
import Derived.Test.YtcnenlmhbpijlaaLkFreach
import Derived.Test.YtcnenlmhbpijlaaLkFmoves
import Derived.Test.YtcnenlmhbpijlaaShTwelve
import Derived.Test.YtcnenlmhbpijlaaShThirteen
set_option maxRecDepth 100000
set_option linter.unusedVariables false
set_option linter.unusedSimpArgs false
namespace Go.Proofs.Ytcnenlmhbpijlaa
open Go.Sh Go.RowKit

theorem eq_step {α : Type} {l l' : List α} {k : Nat} {x y : α} (hx : l[k]? = some x) (hy : l'[k]? = some y) (h : l.take k = l'.take k) (e : x = y) : l.take (k + 1) = l'.take (k + 1) := by rw [take_at hx, take_at hy, h, e]
theorem ne_at {α : Type} {l l' : List α} {k : Nat} {x y : α} (hx : l[k]? = some x) (hy : l'[k]? = some y) (e : x ≠ y) : l ≠ l' := fun h => e (by rw [h, hy] at hx; exact (Option.some.inj hx).symm)
theorem eq_end {α : Type} {l l' : List α} {k : Nat} (hge : ¬ k < l.length) (hl : l.length = l'.length) (h : l.take k = l'.take k) : l = l' := by rwa [List.take_of_length_le (by omega), List.take_of_length_le (by omega)] at h

theorem same70_c (w : World) (s t : SV) (l l' : List ByteArray) (hs : RdSl w s l) (ht : RdSl w t l') : Calls Try.prog 70 #[.slice s.a s.len s.cap, .slice t.a t.len t.cap] w fun e w' => e = .returned (.bool (decide (l = l'))) ∧ Pu w w' := by
  refine F70_calls s t w _ ?_
  have h1 := hs.len
  have h2 := ht.len
  have hlim := hs.lim
  refine Br.of (fun h => ⟨by rw [decide_eq_false]; rintro rfl; simp at h; omega, Pu.refl w⟩) (fun h => ?_)
  have hll : l.length = l'.length := by simp at h; omega
  refine loopUp l.length (fun k t w' => Pu w w' ∧ t = (k : Int) ∧ l.take k = l'.take k) ⟨Pu.refl _, rfl, by simp⟩ ?_
  rintro k J t' w1 hk ⟨hp1, rfl, htk⟩ hJ
  refine Br.of (fun hlt => ?_) (fun hge => ?_)
  · have hlt' : k < l.length := by have := dtrue hlt; omega
    obtain ⟨x, hx⟩ := at_k hlt'
    obtain ⟨y, hy⟩ := at_k (l := l') (k := k) (by omega)
    refine dwE_intro fun w2 hp2 hh2 => ?_
    obtain ⟨a, ha, hi, hc⟩ := (hs.pu (hp1.trans hp2)).str hx
    obtain ⟨b, hb, hj, hd⟩ := (ht.pu (hp1.trans hp2)).str hy
    refine ⟨a, ha, by omega, by omega, x, by simpa using hc, b, hb, by omega, by omega, y, by simpa using hd, ?_⟩
    rw [beq_bytes']
    refine Br.of (fun h => ⟨by rw [decide_eq_false (ne_at hx hy (by simpa using h))], hp1.trans hp2⟩) (fun h => ?_)
    rw [wrap_in (by omega) (by omega)]
    exact hJ _ _ hlt' ⟨hp1.trans hp2, rfl, eq_step hx hy htk (by simpa using h)⟩
  · have hge' : ¬ k < l.length := by have := dfalse hge; omega
    exact ⟨by rw [decide_eq_true (eq_end hge' hll htk)], hp1⟩
theorem same74_c (w : World) (s t : SV) (l l' : List ByteArray) (hs : RdSl w s l) (ht : RdSl w t l') : Calls Try.prog 74 #[.slice s.a s.len s.cap, .slice t.a t.len t.cap] w fun e w' => e = .returned (.bool (decide (l = l'))) ∧ Pu w w' := by
  refine F74_calls s t w _ ?_
  have h1 := hs.len
  have h2 := ht.len
  have hlim := hs.lim
  refine Br.of (fun h => ⟨by rw [decide_eq_false]; rintro rfl; simp at h; omega, Pu.refl w⟩) (fun h => ?_)
  have hll : l.length = l'.length := by simp at h; omega
  refine loopUp l.length (fun k t w' => Pu w w' ∧ t = (k : Int) ∧ l.take k = l'.take k) ⟨Pu.refl _, rfl, by simp⟩ ?_
  rintro k J t' w1 hk ⟨hp1, rfl, htk⟩ hJ
  refine Br.of (fun hlt => ?_) (fun hge => ?_)
  · have hlt' : k < l.length := by have := dtrue hlt; omega
    obtain ⟨x, hx⟩ := at_k hlt'
    obtain ⟨y, hy⟩ := at_k (l := l') (k := k) (by omega)
    refine dwE_intro fun w2 hp2 hh2 => ?_
    obtain ⟨a, ha, hi, hc⟩ := (hs.pu (hp1.trans hp2)).str hx
    obtain ⟨b, hb, hj, hd⟩ := (ht.pu (hp1.trans hp2)).str hy
    refine ⟨a, ha, by omega, by omega, x, by simpa using hc, b, hb, by omega, by omega, y, by simpa using hd, ?_⟩
    rw [beq_bytes']
    refine Br.of (fun h => ⟨by rw [decide_eq_false (ne_at hx hy (by simpa using h))], hp1.trans hp2⟩) (fun h => ?_)
    rw [wrap_in (by omega) (by omega)]
    exact hJ _ _ hlt' ⟨hp1.trans hp2, rfl, eq_step hx hy htk (by simpa using h)⟩
  · have hge' : ¬ k < l.length := by have := dfalse hge; omega
    exact ⟨by rw [decide_eq_true (eq_end hge' hll htk)], hp1⟩
theorem same75_c (w : World) (s t : SV) (l l' : List Int) (hs : RdSl w s l) (ht : RdSl w t l') : Calls Try.prog 75 #[.slice s.a s.len s.cap, .slice t.a t.len t.cap] w fun e w' => e = .returned (.bool (decide (l = l'))) ∧ Pu w w' := by
  refine F75_calls s t w _ ?_
  have h1 := hs.len
  have h2 := ht.len
  have hlim := hs.lim
  refine Br.of (fun h => ⟨by rw [decide_eq_false]; rintro rfl; simp at h; omega, Pu.refl w⟩) (fun h => ?_)
  have hll : l.length = l'.length := by simp at h; omega
  refine loopUp l.length (fun k t w' => Pu w w' ∧ t = (k : Int) ∧ l.take k = l'.take k) ⟨Pu.refl _, rfl, by simp⟩ ?_
  rintro k J t' w1 hk ⟨hp1, rfl, htk⟩ hJ
  refine Br.of (fun hlt => ?_) (fun hge => ?_)
  · have hlt' : k < l.length := by have := dtrue hlt; omega
    obtain ⟨x, hx⟩ := at_k hlt'
    obtain ⟨y, hy⟩ := at_k (l := l') (k := k) (by omega)
    refine dwE_intro fun w2 hp2 hh2 => ?_
    obtain ⟨a, ha, hi, hc, _⟩ := (hs.pu (hp1.trans hp2)).int hx
    obtain ⟨b, hb, hj, hd, _⟩ := (ht.pu (hp1.trans hp2)).int hy
    refine ⟨a, ha, by omega, by omega, x, by simpa using hc, b, hb, by omega, by omega, y, by simpa using hd, ?_⟩
    refine Br.of (fun h => ⟨by rw [decide_eq_false (ne_at hx hy (by simpa using h))], hp1.trans hp2⟩) (fun h => ?_)
    rw [wrap_in (by omega) (by omega)]
    exact hJ _ _ hlt' ⟨hp1.trans hp2, rfl, eq_step hx hy htk (by simpa using h)⟩
  · have hge' : ¬ k < l.length := by have := dfalse hge; omega
    exact ⟨by rw [decide_eq_true (eq_end hge' hll htk)], hp1⟩
theorem same76_c (w : World) (s t : SV) (l l' : List (List ByteArray)) (hs : RdSl w s l) (ht : RdSl w t l') : Calls Try.prog 76 #[.slice s.a s.len s.cap, .slice t.a t.len t.cap, .func (.func 74) #[] #[]] w fun e w' => e = .returned (.bool (decide (l = l'))) ∧ Pu w w' := by
  refine F76_calls s t _ w _ ?_
  have h1 := hs.len
  have h2 := ht.len
  have hlim := hs.lim
  refine Br.of (fun h => ⟨by rw [decide_eq_false]; rintro rfl; simp at h; omega, Pu.refl w⟩) (fun h => ?_)
  have hll : l.length = l'.length := by simp at h; omega
  refine loopUp l.length (fun k t w' => Pu w w' ∧ t = (k : Int) ∧ l.take k = l'.take k) ⟨Pu.refl _, rfl, by simp⟩ ?_
  rintro k J t' w1 hk ⟨hp1, rfl, htk⟩ hJ
  refine Br.of (fun hlt => ?_) (fun hge => ?_)
  · have hlt' : k < l.length := by have := dtrue hlt; omega
    obtain ⟨x, hx⟩ := at_k hlt'
    obtain ⟨y, hy⟩ := at_k (l := l') (k := k) (by omega)
    obtain ⟨a, sx, ha, hi, hc, hsx⟩ := listAt (hs.pu hp1) hx
    obtain ⟨b, sy, hb, hj, hd, hsy⟩ := listAt (ht.pu hp1) hy
    refine ⟨a, ha, by omega, by omega, sx, by simpa using hc, b, hb, by omega, by omega, sy, by simpa using hd, ?_⟩
    refine ⟨by kernel_rfl, ?_⟩
    refine Calls.mono (same74_c w1 sx sy x y hsx hsy) ?_
    rintro e w2 ⟨rfl, hp2⟩
    refine ⟨_, rfl, Br.of (fun h => ⟨by rw [decide_eq_false (ne_at hx hy (by simpa using h))], hp1.trans hp2⟩) (fun h => ?_)⟩
    show J _ _
    rw [wrap_in (by omega) (by omega)]
    exact hJ _ _ hlt' ⟨hp1.trans hp2, rfl, eq_step hx hy htk (by simpa using h)⟩
  · have hge' : ¬ k < l.length := by have := dfalse hge; omega
    exact ⟨by rw [decide_eq_true (eq_end hge' hll htk)], hp1⟩

theorem Mod.ext' {m m' : Mod} (h0 : m.name = m'.name) (h1 : m.ov = m'.ov) (h2 : m.procs = m'.procs) (h3 : m.sizes = m'.sizes) (h4 : m.calls = m'.calls) : m = m' := by
  cases m; cases m'; simp_all

theorem same73_c (w : World) (m m' : Mod) (p z c p' z' c' : SV) (hM : RdMod w m p z c) (hM' : RdMod w m' p' z' c') :
    Calls Try.prog 73 #[.agg #[.string m.name, .int .i64 m.ov, .slice p.a p.len p.cap, .slice z.a z.len z.cap, .slice c.a c.len c.cap], .agg #[.string m'.name, .int .i64 m'.ov, .slice p'.a p'.len p'.cap, .slice z'.a z'.len z'.cap, .slice c'.a c'.len c'.cap]] w fun e w' => e = .returned (.bool (decide (m = m'))) ∧ Pu w w' := by
  refine F73_calls _ _ p z c _ _ p' z' c' w _ ?_
  refine alE_intro fun w1 hw1 => alE_intro fun w2 hw2 => ?_
  have hp1 : Pu w w1 := by rw [hw1]; exact Pu.alloc w _
  have hp2 : Pu w1 w2 := by rw [hw2]; exact Pu.alloc w1 _
  have hP := hp1.trans hp2
  have hb1 : w2.heap[w.heap.size]? = some (.cells #[.string m.name, .int .i64 m.ov, .slice p.a p.len p.cap, .slice z.a z.len z.cap, .slice c.a c.len c.cap] 33) := hp2.blk (by rw [hw1]; exact alloc_new w _)
  have hb2 : w2.heap[w1.heap.size]? = some (.cells #[.string m'.name, .int .i64 m'.ov, .slice p'.a p'.len p'.cap, .slice z'.a z'.len z'.cap, .slice c'.a c'.len c'.cap] 33) := by rw [hw2]; exact alloc_new w1 _
  refine ⟨m.name, by rw [cell_blk hb1]; rfl, m'.name, by rw [cell_blk hb2]; rfl, ?_⟩
  rw [beq_bytes']
  refine Br.of (fun h0 => ?_) (fun h0 => ⟨by rw [decide_eq_false]; rintro rfl; simp at h0, hP⟩)
  have h0 : m.name = m'.name := by simpa using h0
  refine ⟨m.ov, by rw [add_def, cell_blk hb1]; rfl, m'.ov, by rw [add_def, cell_blk hb2]; rfl, ?_⟩
  refine Br.of (fun h1 => ?_) (fun h1 => ⟨by rw [decide_eq_false]; rintro rfl; simp at h1, hP⟩)
  have h1 : m.ov = m'.ov := by simpa using h1
  refine ⟨p, by rw [add_def, cell_blk hb1]; rfl, p', by rw [add_def, cell_blk hb2]; rfl, ?_⟩
  refine Calls.mono (same74_c w2 p p' _ _ (hM.procs.pu hP) (hM'.procs.pu hP)) ?_
  rintro e w3 ⟨rfl, hp3⟩
  have hb1 := hp3.blk hb1
  have hb2 := hp3.blk hb2
  refine ⟨_, rfl, Br.of (fun h2 => ?_) (fun h2 => ⟨by rw [decide_eq_false]; rintro rfl; simp at h2, hP.trans hp3⟩)⟩
  have h2 : m.procs = m'.procs := by simpa using h2
  have hP := hP.trans hp3
  refine ⟨z, by rw [add_def, cell_blk hb1]; rfl, z', by rw [add_def, cell_blk hb2]; rfl, ?_⟩
  refine Calls.mono (same75_c w3 z z' _ _ (hM.sizes.pu hP) (hM'.sizes.pu hP)) ?_
  rintro e w4 ⟨rfl, hp4⟩
  have hb1 := hp4.blk hb1
  have hb2 := hp4.blk hb2
  refine ⟨_, rfl, Br.of (fun h3 => ?_) (fun h3 => ⟨by rw [decide_eq_false]; rintro rfl; simp at h3, hP.trans hp4⟩)⟩
  have h3 : m.sizes = m'.sizes := by simpa using h3
  have hP := hP.trans hp4
  refine ⟨c, by rw [add_def, cell_blk hb1]; rfl, c', by rw [add_def, cell_blk hb2]; rfl, ?_⟩
  refine Calls.mono (same76_c w4 c c' _ _ (hM.calls.pu hP) (hM'.calls.pu hP)) ?_
  rintro e w5 ⟨rfl, hp5⟩
  refine ⟨_, rfl, ?_, hP.trans hp5⟩
  congr 2
  by_cases h4 : m.calls = m'.calls
  · rw [decide_eq_true h4, decide_eq_true (Mod.ext' h0 h1 h2 h3 h4)]
  · rw [decide_eq_false h4, decide_eq_false]; rintro rfl; exact h4 rfl

theorem same72_c (w : World) (s t : SV) (l l' : List Mod) (hs : RdSl w s l) (ht : RdSl w t l') : Calls Try.prog 72 #[.slice s.a s.len s.cap, .slice t.a t.len t.cap, .func (.func 73) #[] #[]] w fun e w' => e = .returned (.bool (decide (l = l'))) ∧ Pu w w' := by
  refine F72_calls s t _ w _ ?_
  have h1 := hs.len
  have h2 := ht.len
  have hlim := hs.lim
  refine Br.of (fun h => ⟨by rw [decide_eq_false]; rintro rfl; simp at h; omega, Pu.refl w⟩) (fun h => ?_)
  have hll : l.length = l'.length := by simp at h; omega
  refine loopUp l.length (fun k t w' => Pu w w' ∧ t = (k : Int) ∧ l.take k = l'.take k) ⟨Pu.refl _, rfl, by simp⟩ ?_
  rintro k J t' w1 hk ⟨hp1, rfl, htk⟩ hJ
  refine Br.of (fun hlt => ?_) (fun hge => ?_)
  · have hlt' : k < l.length := by have := dtrue hlt; omega
    obtain ⟨x, hx⟩ := at_k hlt'
    obtain ⟨y, hy⟩ := at_k (l := l') (k := k) (by omega)
    obtain ⟨a, p, z, c, ha, hi, hM, c0, c1, c2, c3, c4⟩ := modAt (hs.pu hp1) hx
    refine ⟨a, ha, by omega, by omega, x.name, by simpa using c0, x.ov, by simpa using c1, p, by simpa using c2, z, by simpa using c3, c, by simpa using c4, ?_⟩
    refine boxA (by rfl) (by kernel_rfl) (by rfl) fun w2 hp2 hs2 hb2 => ?_
    obtain ⟨b, p', z', c', hb, hj, hM', d0, d1, d2, d3, d4⟩ := modAt (ht.pu (hp1.trans hp2)) hy
    refine ⟨b, hb, by omega, by omega, y.name, by simpa using d0, y.ov, by simpa using d1, p', by simpa using d2, z', by simpa using d3, c', by simpa using d4, ?_⟩
    refine boxA (by rfl) (by kernel_rfl) (by rfl) fun w3 hp3 hs3 hb3 => ?_
    have hb2 := hp3.blk hb2
    have hP := (hp1.trans hp2).trans hp3
    refine ⟨x.name, by rw [add_def, cell_blk hb2]; rfl, x.ov, by rw [add_def, cell_blk hb2]; rfl, p, by rw [add_def, cell_blk hb2]; rfl, z, by rw [add_def, cell_blk hb2]; rfl, c, by rw [add_def, cell_blk hb2]; rfl,
      y.name, by rw [add_def, cell_blk hb3]; rfl, y.ov, by rw [add_def, cell_blk hb3]; rfl, p', by rw [add_def, cell_blk hb3]; rfl, z', by rw [add_def, cell_blk hb3]; rfl, c', by rw [add_def, cell_blk hb3]; rfl, ?_⟩
    refine ⟨by kernel_rfl, ?_⟩
    refine Calls.mono (same73_c w3 x y p z c p' z' c' (hM.pu (hp2.trans hp3)) (hM'.pu hp3)) ?_
    rintro e w4 ⟨rfl, hp4⟩
    refine ⟨_, rfl, Br.of (fun h => ⟨by rw [decide_eq_false (ne_at hx hy (by simpa using h))], hP.trans hp4⟩) (fun h => ?_)⟩
    show J _ _
    rw [wrap_in (by omega) (by omega)]
    exact hJ _ _ hlt' ⟨hP.trans hp4, rfl, eq_step hx hy htk (by simpa using h)⟩
  · have hge' : ¬ k < l.length := by have := dfalse hge; omega
    exact ⟨by rw [decide_eq_true (eq_end hge' hll htk)], hp1⟩
theorem same_c (w : World) (s t : SV) (l l' : List Mod) (hs : RdSl w s l) (ht : RdSl w t l') : Calls Try.prog 36 #[.slice s.a s.len s.cap, .slice t.a t.len t.cap] w fun e w' => e = .returned (.bool (decide (l = l'))) ∧ Pu w w' := by
  refine F36_calls s t w _ ?_
  refine Calls.mono (same72_c w s t l l' hs ht) ?_
  rintro e w' ⟨rfl, hp⟩
  exact ⟨_, rfl, rfl, hp⟩

set_option maxHeartbeats 1000000 in
theorem rSame_c (w : World) (s t : SV) (l l' : List Mod) (hs : RdSl w s l) (ht : RdSl w t l') : Calls Try.prog 33 #[.slice s.a s.len s.cap, .slice t.a t.len t.cap] w fun e w' => e = .returned (.bool (decide (l = l'))) ∧ Pu w w' := by
  refine F33_calls s t w _ ?_
  have h1 := hs.len
  have h2 := ht.len
  have hlim := hs.lim
  refine Br.of (fun h => ⟨by rw [decide_eq_false]; rintro rfl; simp at h; omega, Pu.refl w⟩) (fun h => ?_)
  have hll : l.length = l'.length := by simp at h; omega
  refine loopUp l.length (fun k t w' => Pu w w' ∧ t = (k : Int) ∧ l.take k = l'.take k) ⟨Pu.refl _, rfl, by simp⟩ ?_
  rintro k J t' w1 hk ⟨hp1, rfl, htk⟩ hJ
  refine Br.of (fun hlt => ?_) (fun hge => ?_)
  case refine_2 =>
    have hge' : ¬ k < l.length := by have := dfalse hge; omega
    exact ⟨by rw [decide_eq_true (eq_end hge' hll htk)], hp1⟩
  have hlt' : k < l.length := by have := dtrue hlt; omega
  obtain ⟨x, hx⟩ := at_k hlt'
  obtain ⟨y, hy⟩ := at_k (l := l') (k := k) (by omega)
  refine dwE_intro fun w2 hp2 hh2 => ?_
  have hP := hp1.trans hp2
  obtain ⟨a, p, z, c, ha, hi, hM, c0, c1, c2, c3, c4⟩ := modAt (hs.pu hP) hx
  obtain ⟨b, p', z', c', hb, hj, hM', d0, d1, d2, d3, d4⟩ := modAt (ht.pu hP) hy
  have fin : ∀ (r6 r7 : Nat) (u : World), Pu w2 u → u.heap[r6]? = some (.cells #[.string x.name, .int .i64 x.ov, .slice p.a p.len p.cap, .slice z.a z.len z.cap, .slice c.a c.len c.cap] 33) → u.heap[r7]? = some (.cells #[.string y.name, .int .i64 y.ov, .slice p'.a p'.len p'.cap, .slice z'.a z'.len z'.cap, .slice c'.a c'.len c'.cap] 33) →
      F33_11 (fun e w' => e = .returned (.bool (decide (l = l'))) ∧ Pu w w') J s t (k : Int) (some (⟨r6, 0, none⟩ : Addr)) (some (⟨r7, 0, none⟩ : Addr)) [] u := fun r6 r7 u hu hb6 hb7 => by
    have no : x ≠ y → ∀ u' : World, Pu w u' → F33_10 (fun e w' => e = .returned (.bool (decide (l = l'))) ∧ Pu w w') J s t (k : Int) (some (⟨r6, 0, none⟩ : Addr)) (some (⟨r7, 0, none⟩ : Addr)) true [] u' := fun hne u' hp' => Br.t rfl ⟨by rw [decide_eq_false (ne_at hx hy hne)], hp'⟩
    have hPu := hP.trans hu
    refine ⟨x.name, by rw [cell_blk hb6]; rfl, y.name, by rw [cell_blk hb7]; rfl, ?_⟩
    rw [beq_bytes']
    refine Br.of (fun e0 => no (by rintro rfl; simp at e0) u hPu) (fun e0 => ?_)
    have e0 : x.name = y.name := by simpa using e0
    refine ⟨x.ov, by rw [add_def, cell_blk hb6]; rfl, y.ov, by rw [add_def, cell_blk hb7]; rfl, ?_⟩
    refine Br.of (fun e1 => no (by rintro rfl; simp at e1) u hPu) (fun e1 => ?_)
    have e1 : x.ov = y.ov := by simpa using e1
    refine ⟨p, by rw [add_def, cell_blk hb6]; rfl, p', by rw [add_def, cell_blk hb7]; rfl, ?_⟩
    refine Calls.mono (same70_c u p p' _ _ (hM.procs.pu hu) (hM'.procs.pu hu)) ?_
    rintro e u2 ⟨rfl, hu2⟩
    have hb6 := hu2.blk hb6
    have hb7 := hu2.blk hb7
    have hPu := hPu.trans hu2
    have hu := hu.trans hu2
    refine ⟨_, rfl, Br.of (fun e2 => no (by rintro rfl; simp at e2) u2 hPu) (fun e2 => ?_)⟩
    have e2 : x.procs = y.procs := by simpa using e2
    refine ⟨z, by rw [add_def, cell_blk hb6]; rfl, z', by rw [add_def, cell_blk hb7]; rfl, ?_⟩
    have hz := hM.sizes.len
    have hz' := hM'.sizes.len
    have hc := hM.calls.len
    have hc' := hM'.calls.len
    have hzl := hM.sizes.lim
    have hcl := hM.calls.lim
    refine Br.of (fun e3 => no (by rintro rfl; simp at e3; omega) u2 hPu) (fun e3 => ?_)
    have e3 : x.sizes.length = y.sizes.length := by simp at e3; omega
    refine ⟨c, by rw [add_def, cell_blk hb6]; rfl, c', by rw [add_def, cell_blk hb7]; rfl, ?_⟩
    refine Br.of (fun e4 => ⟨by rw [decide_eq_false (ne_at hx hy (by rintro rfl; simp at e4; omega))], hPu⟩) (fun e4 => ?_)
    have e4 : x.calls.length = y.calls.length := by simp at e4; omega
    refine loopUp x.sizes.length (fun j t w' => Pu u2 w' ∧ t = (j : Int) ∧ x.sizes.take j = y.sizes.take j) ⟨Pu.refl _, rfl, by simp⟩ ?_
    rintro j J2 t' w3 hj ⟨hp3, rfl, htj⟩ hJ2
    have hb6 := hp3.blk hb6
    have hb7 := hp3.blk hb7
    have hPu := hPu.trans hp3
    have hu := hu.trans hp3
    refine ⟨z, by rw [add_def, cell_blk hb6]; rfl, Br.of (fun hlt2 => ?_) (fun hge2 => ?_)⟩
    · have hlt2' : j < x.sizes.length := by have := dtrue hlt2; omega
      obtain ⟨n, hn⟩ := at_k hlt2'
      obtain ⟨n', hn'⟩ := at_k (l := y.sizes) (k := j) (by omega)
      refine dwE_intro fun w4 hp4 hh4 => ?_
      have hb6 := hp4.blk hb6
      have hb7 := hp4.blk hb7
      obtain ⟨a2, ha2, hi2, hc2, _⟩ := (hM.sizes.pu (hu.trans hp4)).int hn
      obtain ⟨b2, hb2, hj2, hd2, _⟩ := (hM'.sizes.pu (hu.trans hp4)).int hn'
      refine ⟨z, by rw [add_def, cell_blk hb6]; rfl, a2, ha2, by omega, by omega, n, by simpa using hc2, z', by rw [add_def, cell_blk hb7]; rfl, b2, hb2, by omega, by omega, n', by simpa using hd2, ?_⟩
      refine Br.of (fun h => ⟨by rw [decide_eq_false (ne_at hx hy fun e => ne_at hn hn' (by simpa using h) (by rw [e]))], hPu.trans hp4⟩) (fun h => ?_)
      rw [wrap_in (by omega) (by omega)]
      exact hJ2 _ _ hlt2' ⟨hp3.trans hp4, rfl, eq_step hn hn' htj (by simpa using h)⟩
    · have hge2' : ¬ j < x.sizes.length := by have := dfalse hge2; omega
      have e5 : x.sizes = y.sizes := eq_end hge2' e3 htj
      refine loopUp x.calls.length (fun j t w' => Pu w3 w' ∧ t = (j : Int) ∧ x.calls.take j = y.calls.take j) ⟨Pu.refl _, rfl, by simp⟩ ?_
      rintro i J3 t' w5 hi ⟨hp5, rfl, hti⟩ hJ3
      have hb6 := hp5.blk hb6
      have hb7 := hp5.blk hb7
      have hPu := hPu.trans hp5
      have hu := hu.trans hp5
      refine ⟨c, by rw [add_def, cell_blk hb6]; rfl, Br.of (fun hlt3 => ?_) (fun hge3 => ?_)⟩
      · have hlt3' : i < x.calls.length := by have := dtrue hlt3; omega
        obtain ⟨n, hn⟩ := at_k hlt3'
        obtain ⟨n', hn'⟩ := at_k (l := y.calls) (k := i) (by omega)
        refine dwE_intro fun w6 hp6 hh6 => ?_
        have hb6 := hp6.blk hb6
        have hb7 := hp6.blk hb7
        obtain ⟨a2, sx, ha2, hi2, hc2, hsx⟩ := listAt (hM.calls.pu (hu.trans hp6)) hn
        obtain ⟨b2, sy, hb2, hj2, hd2, hsy⟩ := listAt (hM'.calls.pu (hu.trans hp6)) hn'
        refine ⟨c, by rw [add_def, cell_blk hb6]; rfl, a2, ha2, by omega, by omega, sx, by simpa using hc2, c', by rw [add_def, cell_blk hb7]; rfl, b2, hb2, by omega, by omega, sy, by simpa using hd2, ?_⟩
        refine Calls.mono (same70_c w6 sx sy _ _ hsx hsy) ?_
        rintro e w7 ⟨rfl, hp7⟩
        refine ⟨_, rfl, Br.of (fun h => ⟨by rw [decide_eq_false (ne_at hx hy fun e => ne_at hn hn' (by simpa using h) (by rw [e]))], (hPu.trans hp6).trans hp7⟩) (fun h => ?_)⟩
        rw [wrap_in (by omega) (by omega)]
        exact hJ3 _ _ hlt3' ⟨(hp5.trans hp6).trans hp7, rfl, eq_step hn hn' hti (by simpa using h)⟩
      · have hge3' : ¬ i < x.calls.length := by have := dfalse hge3; omega
        have e6 : x.calls = y.calls := eq_end hge3' e4 hti
        show J _ _
        rw [wrap_in (n := (k : Int) + 1) (by omega) (by omega)]
        exact hJ _ _ hlt' ⟨hPu, rfl, eq_step hx hy htk (Mod.ext' e0 e1 e2 e5 e6)⟩
  refine ⟨fun u => Pu w2 u, Pu.refl w2, a, ha, by omega, by omega, x.name, fun u hu => by simpa using hu.cell c0, x.ov, fun u hu => by simpa using hu.cell c1, p, fun u hu => by simpa using hu.cell c2, z, fun u hu => by simpa using hu.cell c3, c, fun u hu => by simpa using hu.cell c4,
    b, hb, by omega, by omega, y.name, fun u hu => by simpa using hu.cell d0, y.ov, fun u hu => by simpa using hu.cell d1, p', fun u hu => by simpa using hu.cell d2, z', fun u hu => by simpa using hu.cell d3, c', fun u hu => by simpa using hu.cell d4, ?_, ?_⟩
  · refine alE_intro fun w3 hw3 => ?_
    have hp3 : Pu w2 w3 := by rw [hw3]; exact Pu.alloc w2 _
    have hn3 : w3.heap[w2.heap.size]? = some (.cells #[.string (⟨#[]⟩ : ByteArray), .int .i64 0, .slice none 0 0, .slice none 0 0, .slice none 0 0] 33) := by rw [hw3]; exact alloc_new w2 _
    have hs3 : w3.heap.size = w2.heap.size + 1 := by rw [hw3]; simp
    refine ⟨hp3, alE_intro fun w4 hw4 => ?_⟩
    have hp4 : Pu w3 w4 := by rw [hw4]; exact Pu.alloc w3 _
    have hn4 : w4.heap[w3.heap.size]? = some (.cells #[.string (⟨#[]⟩ : ByteArray), .int .i64 0, .slice none 0 0, .slice none 0 0, .slice none 0 0] 33) := by rw [hw4]; exact alloc_new w3 _
    refine ⟨hp3.trans hp4, stA_fill (hp4.blk hn3) (by kernel_rfl) (by rfl) (by rfl) fun w5 hb5 hf5 hs5 => ?_⟩
    have hp5 : Pu w2 w5 := Pu.andNew (hp3.trans hp4) hf5 fun i hi => by have hi : i = w2.heap.size := hi; omega
    refine ⟨hp5, stA_fill (hf5.blk hn4 (by show ¬ w3.heap.size = w2.heap.size; omega)) (by kernel_rfl) (by rfl) (by rfl) fun w6 hb6 hf6 hs6 => ?_⟩
    exact fin _ _ w6 (Pu.andNew hp5 hf6 fun i hi => by have hi : i = w3.heap.size := hi; omega) (hf6.blk hb5 (by show ¬ w2.heap.size = w3.heap.size; omega)) hb6
  · refine alE_intro fun w3 hw3 => ?_
    have hp3 : Pu w2 w3 := by rw [hw3]; exact Pu.alloc w2 _
    have hn3 : w3.heap[w2.heap.size]? = some (.cells #[.string (⟨#[]⟩ : ByteArray), .int .i64 0, .slice none 0 0, .slice none 0 0, .slice none 0 0] 33) := by rw [hw3]; exact alloc_new w2 _
    have hs3 : w3.heap.size = w2.heap.size + 1 := by rw [hw3]; simp
    refine ⟨hp3, alE_intro fun w4 hw4 => ?_⟩
    have hp4 : Pu w3 w4 := by rw [hw4]; exact Pu.alloc w3 _
    have hn4 : w4.heap[w3.heap.size]? = some (.cells #[.string (⟨#[]⟩ : ByteArray), .int .i64 0, .slice none 0 0, .slice none 0 0, .slice none 0 0] 33) := by rw [hw4]; exact alloc_new w3 _
    refine ⟨hp3.trans hp4, stA_fill hn4 (by kernel_rfl) (by rfl) (by rfl) fun w5 hb5 hf5 hs5 => ?_⟩
    have hp5 : Pu w2 w5 := Pu.andNew (hp3.trans hp4) hf5 fun i hi => by have hi : i = w3.heap.size := hi; omega
    refine ⟨hp5, stA_fill (hf5.blk (hp4.blk hn3) (by show ¬ w2.heap.size = w3.heap.size; omega)) (by kernel_rfl) (by rfl) (by rfl) fun w6 hb6 hf6 hs6 => ?_⟩
    exact fin _ _ w6 (Pu.andNew hp5 hf6 fun i hi => by have hi : i = w2.heap.size := hi; omega) (hf6.blk hb5 (by show ¬ w3.heap.size = w2.heap.size; omega)) hb6
end Go.Proofs.Ytcnenlmhbpijlaa
