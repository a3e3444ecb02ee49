import Derived.Test.YtcnenlmhbpijlaaLkK
import Derived.Test.YtcnenlmhbpijlaaLkFr
/- Link: the reference's names, largeness, modules and Validate. No condition but the reach's. -/
set_option maxRecDepth 100000
set_option linter.unusedVariables false
set_option linter.unusedSimpArgs false
namespace Go.Proofs.Ytcnenlmhbpijlaa
open Go.Sh Go.RowKit

theorem byteAt {s : ByteArray} {k : Nat} {b : UInt8} (h : s.data.toList[k]? = some b) : s[k]? = some b := by
  rw [Array.getElem?_toList] at h
  exact h
theorem rIsName_c (w : World) (s : ByteArray) : Calls Try.prog 99 #[.string s] w fun e w' => e = .returned (.bool (nameB s)) ∧ w' = w := by
  refine F99_calls s w _ ?_
  have hsz : s.data.toList.length = s.size := by first | (simp; done) | (simp; rfl)
  refine Br.of (fun h1 => ?_) (fun h1 => ?_)
  · have h1 := dtrue h1
    have : ¬ 1 ≤ s.size := by omega
    exact ⟨by simp [nameB, this], rfl⟩
  have h1 := dfalse h1
  refine Br.of (fun h2 => ?_) (fun h2 => ?_)
  · have h2 := dtrue h2
    have : ¬ s.size ≤ 10 := by omega
    exact ⟨by simp [nameB, this], rfl⟩
  have h2 := dfalse h2
  refine loopUp s.size (fun k t w' => w' = w ∧ t = (k : Int) ∧ okFrom 0 s.data.toList = okFrom k (s.data.toList.drop k)) ⟨rfl, rfl, rfl⟩ ?_
  rintro k J t w' hk ⟨rfl, rfl, hok⟩ hJ
  refine Br.of (fun hlt => ?_) (fun hge => ?_)
  · have hlt' : k < s.data.toList.length := by have := dtrue hlt; omega
    obtain ⟨b, hb⟩ := at_k hlt'
    rw [okFrom_at hb] at hok
    have good : nameAt k b = true → J (IntKind.i64.wrap ((k : Int) + 1)) w' := fun hn => by
      rw [wrap_in (by omega) (by omega)]
      exact hJ _ _ (by omega) ⟨rfl, rfl, by rw [hok, hn]; rfl⟩
    have bad : nameAt k b = false → runD Try.prog [] w' (fun w2 => (Ending.returned (Value.bool false) = .returned (.bool (nameB s)) ∧ w2 = w')) := fun hn => by
      rw [hn] at hok
      exact ⟨by simp [nameB, hok], rfl⟩
    refine ⟨b, by omega, by simpa using byteAt hb, ?_⟩
    repeat' (refine Br.of (fun _ => ?_) (fun _ => ?_))
    all_goals
      simp only [decide_eq_true_eq, decide_eq_false_iff_not, Bool.not_eq_true', Bool.not_eq_false', beq_iff_eq, beq_eq_false_iff_ne, bne_iff_ne, bne_eq_false_iff_eq, ne_eq, Decidable.not_not] at *
      first
        | exact good (by simp only [nameAt, letter, Bool.or_eq_true, Bool.and_eq_true, decide_eq_true_eq]; omega)
        | exact bad (by rw [← Bool.not_eq_true]; simp only [nameAt, letter, Bool.or_eq_true, Bool.and_eq_true, decide_eq_true_eq]; omega)
  · have hge' : ¬ k < s.data.toList.length := by have := dfalse hge; omega
    rw [drop_end hge'] at hok
    refine ⟨?_, rfl⟩
    have e1 : 1 ≤ s.size := by omega
    have e2 : s.size ≤ 10 := by omega
    simp [nameB, hok, okFrom, e1, e2]

theorem rIsLarge_c (w : World) (s : SV) (l : List Mod) (hl : RdSl w s l) : Calls Try.prog 60 #[.slice s.a s.len s.cap] w fun e w' => e = .returned (.bool (largeB l)) ∧ w' = w := by
  refine F60_calls s w _ ?_
  have hlen := hl.len
  have hlim := hl.lim
  refine loopUp l.length (fun k t w' => w' = w ∧ t.2 = (k : Int) ∧ (l.any fun m => m.calls.any fun c => decide (100 < c.length)) = ((l.drop k).any fun m => m.calls.any fun c => decide (100 < c.length)) ∧ (k ≤ 32 → t.1 = ((nprocs (l.take k) : Nat) : Int) ∧ nprocs (l.take k) ≤ k * 140737488355328)) ⟨rfl, rfl, rfl, fun _ => ⟨rfl, by simp [nprocs]⟩⟩ ?_
  rintro k J ⟨n3, t⟩ w' hk ⟨rfl, ht, hany, hn⟩ hJ
  obtain rfl : t = (k : Int) := ht
  have hn : k ≤ 32 → n3 = ((nprocs (l.take k) : Nat) : Int) ∧ nprocs (l.take k) ≤ k * 140737488355328 := hn
  dsimp only
  refine Br.of (fun hlt => ?_) (fun hge => ?_)
  · have hlt' : k < l.length := by have := dtrue hlt; omega
    obtain ⟨m, hm⟩ := at_k hlt'
    obtain ⟨a, p, z, c, ha, hi, hM, c0, c1, c2, c3, c4⟩ := modAt hl hm
    rw [drop_at hm, List.any_cons] at hany
    refine ⟨a, ha, by omega, by omega, p, by simpa using c2, ?_⟩
    have hcl := hM.calls.len
    have hclim := hM.calls.lim
    have hpl := hM.procs.len
    have hpm := hM.procs.lim
    refine loopUp m.calls.length (fun j t w'' => w'' = w' ∧ t = (j : Int) ∧ (m.calls.any fun c => decide (100 < c.length)) = ((m.calls.drop j).any fun c => decide (100 < c.length))) ⟨rfl, rfl, rfl⟩ ?_
    rintro j J2 t w'' hj ⟨rfl, rfl, hany2⟩ hJ2
    refine ⟨a, ha, by omega, by omega, c, by simpa using c4, Br.of (fun hlt2 => ?_) (fun hge2 => ?_)⟩
    · have hlt2' : j < m.calls.length := by have := dtrue hlt2; omega
      obtain ⟨x, hx⟩ := at_k hlt2'
      obtain ⟨a2, t2, ha2, hi2, hc2, ht2⟩ := listAt hM.calls hx
      rw [drop_at hx, List.any_cons] at hany2
      refine ⟨a, ha, by omega, by omega, c, by simpa using c4, a2, ha2, by omega, by omega, t2, by simpa using hc2, Br.of (fun h3 => ?_) (fun h3 => ?_)⟩
      · have h3 := dtrue h3
        have h4 : 100 < x.length := by have := ht2.len; omega
        refine ⟨?_, rfl⟩
        rw [decide_eq_true h4, Bool.true_or] at hany2
        rw [hany2, Bool.true_or] at hany
        simp [largeB, hany]
      · have h3 := dfalse h3
        have h4 : ¬ 100 < x.length := by have := ht2.len; omega
        rw [decide_eq_false h4, Bool.false_or] at hany2
        rw [wrap_in (by omega) (by omega)]
        exact hJ2 _ _ hlt2' ⟨rfl, rfl, hany2⟩
    · have hge2' : ¬ j < m.calls.length := by have := dfalse hge2; omega
      rw [drop_end hge2', List.any_nil] at hany2
      rw [hany2, Bool.false_or] at hany
      show J _ _
      rw [wrap_in (n := (k : Int) + 1) (by omega) (by omega)]
      refine hJ _ _ hlt' ⟨rfl, rfl, hany, fun h32 => ?_⟩
      obtain ⟨e1, e2⟩ := hn (by omega)
      rw [nprocs_take hm]
      refine ⟨?_, by omega⟩
      show IntKind.i64.wrap _ = _
      rw [e1, wrap_in (by omega) (by omega)]
      omega
  · have hge' : ¬ k < l.length := by have := dfalse hge; omega
    rw [drop_end hge', List.any_nil] at hany
    refine Br.of (fun h1 => ?_) (fun h1 => ?_)
    · have h1 : 32 < l.length := by have := dtrue h1; omega
      exact ⟨by simp [largeB, h1], rfl⟩
    · have h1 : ¬ 32 < l.length := by have := dfalse h1; omega
      obtain ⟨e1, _⟩ := hn (by omega)
      rw [take_end hk hge'] at e1
      have : decide (n3 > 100) = decide (100 < nprocs l) := by rw [e1]; congr 1; exact propext ⟨fun h => by omega, fun h => by omega⟩
      exact ⟨by rw [this]; simp [largeB, hany, h1], rfl⟩

theorem rIsModule_c (w : World) (m : Mod) (p z c : SV) (hM : RdMod w m p z c) : Calls Try.prog 61 #[.agg #[.string m.name, .int .i64 m.ov, .slice p.a p.len p.cap, .slice z.a z.len z.cap, .slice c.a c.len c.cap]] w fun e w' => e = .returned (.bool (rightB m)) ∧ Pu w w' := by
  refine F61_calls _ _ _ _ _ w _ ?_
  refine alE_intro fun w1 hw1 => ?_
  have hp1 : Pu w w1 := by rw [hw1]; exact Pu.alloc w _
  have hb1 : w1.heap[w.heap.size]? = some (.cells #[.string m.name, .int .i64 m.ov, .slice p.a p.len p.cap, .slice z.a z.len z.cap, .slice c.a c.len c.cap] 33) := by rw [hw1]; exact alloc_new w _
  have hM1 := hM.pu hp1
  refine ⟨m.name, by rw [cell_blk hb1]; rfl, ?_⟩
  refine Calls.mono (rIsName_c w1 m.name) ?_
  rintro e w1' ⟨rfl, rfl⟩
  refine ⟨_, rfl, Br.of (fun h1 => ?_) (fun h1 => ?_)⟩
  · have h1 : nameB m.name = false := by simpa using h1
    exact ⟨by simp [rightB, h1], hp1⟩
  have h1 : nameB m.name = true := by simpa using h1
  refine ⟨m.ov, by rw [add_def, cell_blk hb1]; rfl, Br.of (fun h2 => ?_) (fun h2 => ?_)⟩
  · have h2 := dtrue h2
    have : ¬ 0 ≤ m.ov := by omega
    exact ⟨by simp [rightB, this], hp1⟩
  have h2 : 0 ≤ m.ov := by have := dfalse h2; omega
  refine ⟨m.ov, by rw [add_def, cell_blk hb1]; rfl, Br.of (fun h3 => ?_) (fun h3 => ?_)⟩
  · have h3 := dtrue h3
    have : ¬ m.ov ≤ 15 := by omega
    exact ⟨by simp [rightB, this], hp1⟩
  have h3 : m.ov ≤ 15 := by have := dfalse h3; omega
  have hpl := hM.procs.len
  have hplim := hM.procs.lim
  have hzl := hM.sizes.len
  have hzlim := hM.sizes.lim
  have hcl := hM.calls.len
  have hclim := hM.calls.lim
  -- the procedures
  refine loopUp m.procs.length (fun k t w' => w' = w1' ∧ t = (k : Int) ∧ m.procs.all nameB = (m.procs.drop k).all nameB) ⟨rfl, rfl, rfl⟩ ?_
  rintro k J t w' hk ⟨rfl, rfl, hall⟩ hJ
  refine ⟨p, by rw [add_def, cell_blk hb1]; rfl, Br.of (fun hlt => ?_) (fun hge => ?_)⟩
  · have hlt' : k < m.procs.length := by have := dtrue hlt; omega
    obtain ⟨x, hx⟩ := at_k hlt'
    obtain ⟨a, ha, hi, hca⟩ := hM1.procs.str hx
    rw [drop_at hx, List.all_cons] at hall
    refine ⟨p, by rw [add_def, cell_blk hb1]; rfl, a, ha, by omega, by omega, x, by simpa using hca, ?_⟩
    refine Calls.mono (rIsName_c w' x) ?_
    rintro e w'' ⟨rfl, rfl⟩
    refine ⟨_, rfl, Br.of (fun h4 => ?_) (fun h4 => ?_)⟩
    · have h4 : nameB x = false := by simpa using h4
      rw [h4, Bool.false_and] at hall
      exact ⟨by simp [rightB, hall], hp1⟩
    · have h4 : nameB x = true := by simpa using h4
      rw [h4, Bool.true_and] at hall
      rw [wrap_in (by omega) (by omega)]
      exact hJ _ _ hlt' ⟨rfl, rfl, hall⟩
  have hge' : ¬ k < m.procs.length := by have := dfalse hge; omega
  rw [drop_end hge', List.all_nil] at hall
  -- the sizes
  refine loopUp m.sizes.length (fun k t w'' => w'' = w' ∧ t = (k : Int) ∧ m.sizes.all sizeOk = (m.sizes.drop k).all sizeOk) ⟨rfl, rfl, rfl⟩ ?_
  rintro k2 J t w'' hk2 ⟨rfl, rfl, hall2⟩ hJ
  refine ⟨z, by rw [add_def, cell_blk hb1]; rfl, Br.of (fun hlt => ?_) (fun hge => ?_)⟩
  · have hlt' : k2 < m.sizes.length := by have := dtrue hlt; omega
    obtain ⟨x, hx⟩ := at_k hlt'
    obtain ⟨a, ha, hi, hca, _⟩ := hM1.sizes.int hx
    rw [drop_at hx, List.all_cons] at hall2
    refine ⟨z, by rw [add_def, cell_blk hb1]; rfl, a, ha, by omega, by omega, x, by simpa using hca, Br.of (fun h4 => ?_) (fun h4 => ?_)⟩
    · have h4 := dtrue h4
      have : ¬ 1 ≤ x := by omega
      have h5 : sizeOk x = false := by simp [sizeOk, this]
      rw [h5, Bool.false_and] at hall2
      exact ⟨by simp [rightB, hall2], hp1⟩
    have h4 := dfalse h4
    refine ⟨z, by rw [add_def, cell_blk hb1]; rfl, a, ha, by omega, by omega, x, by simpa using hca, Br.of (fun h5 => ?_) (fun h5 => ?_)⟩
    · have h5 := dtrue h5
      have : ¬ x ≤ 10000 := by omega
      have h6 : sizeOk x = false := by simp [sizeOk, this]
      rw [h6, Bool.false_and] at hall2
      exact ⟨by simp [rightB, hall2], hp1⟩
    have h5 := dfalse h5
    have h6 : sizeOk x = true := by
      have e1 : 1 ≤ x := by omega
      have e2 : x ≤ 10000 := by omega
      simp [sizeOk, e1, e2]
    rw [h6, Bool.true_and] at hall2
    rw [wrap_in (by omega) (by omega)]
    exact hJ _ _ hlt' ⟨rfl, rfl, hall2⟩
  have hge2 : ¬ k2 < m.sizes.length := by have := dfalse hge; omega
  rw [drop_end hge2, List.all_nil] at hall2
  -- the calls
  refine loopUp m.calls.length (fun k t w3 => w3 = w'' ∧ t = (k : Int) ∧ m.calls.all (·.all nameB) = (m.calls.drop k).all (·.all nameB)) ⟨rfl, rfl, rfl⟩ ?_
  rintro k3 J t w3 hk3 ⟨rfl, rfl, hall3⟩ hJ
  refine ⟨c, by rw [add_def, cell_blk hb1]; rfl, Br.of (fun hlt => ?_) (fun hge => ?_)⟩
  · have hlt' : k3 < m.calls.length := by have := dtrue hlt; omega
    obtain ⟨x, hx⟩ := at_k hlt'
    obtain ⟨a, t, ha, hi, hca, ht⟩ := listAt hM1.calls hx
    rw [drop_at hx, List.all_cons] at hall3
    have htl := ht.len
    have htlim := ht.lim
    refine loopUp x.length (fun j t' w4 => w4 = w3 ∧ t' = (j : Int) ∧ x.all nameB = (x.drop j).all nameB) ⟨rfl, rfl, rfl⟩ ?_
    rintro j J2 t' w4 hj ⟨rfl, rfl, hall4⟩ hJ2
    refine ⟨c, by rw [add_def, cell_blk hb1]; rfl, a, ha, by omega, by omega, t, by simpa using hca, Br.of (fun hlt2 => ?_) (fun hge2 => ?_)⟩
    · have hlt2' : j < x.length := by have := dtrue hlt2; omega
      obtain ⟨y, hy⟩ := at_k hlt2'
      obtain ⟨a2, ha2, hi2, hc2⟩ := ht.str hy
      rw [drop_at hy, List.all_cons] at hall4
      refine ⟨c, by rw [add_def, cell_blk hb1]; rfl, a, ha, by omega, by omega, t, by simpa using hca, a2, ha2, by omega, by omega, y, by simpa using hc2, ?_⟩
      refine Calls.mono (rIsName_c w4 y) ?_
      rintro e w5 ⟨rfl, rfl⟩
      refine ⟨_, rfl, Br.of (fun h4 => ?_) (fun h4 => ?_)⟩
      · have h4 : nameB y = false := by simpa using h4
        rw [h4, Bool.false_and] at hall4
        rw [hall4, Bool.false_and] at hall3
        exact ⟨by rw [rightB, hall3, Bool.and_false], hp1⟩
      · have h4 : nameB y = true := by simpa using h4
        rw [h4, Bool.true_and] at hall4
        rw [wrap_in (by omega) (by omega)]
        exact hJ2 _ _ hlt2' ⟨rfl, rfl, hall4⟩
    · have hge2' : ¬ j < x.length := by have := dfalse hge2; omega
      rw [drop_end hge2', List.all_nil] at hall4
      rw [hall4, Bool.true_and] at hall3
      show J _ _
      rw [wrap_in (by omega) (by omega)]
      exact hJ _ _ hlt' ⟨rfl, rfl, hall3⟩
  · have hge3 : ¬ k3 < m.calls.length := by have := dfalse hge; omega
    rw [drop_end hge3, List.all_nil] at hall3
    exact ⟨by simp [rightB, h1, h2, h3, hall, hall2, hall3], hp1⟩
end Go.Proofs.Ytcnenlmhbpijlaa
