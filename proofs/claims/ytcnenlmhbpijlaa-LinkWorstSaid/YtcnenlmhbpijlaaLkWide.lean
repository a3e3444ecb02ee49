import Derived.Test.YtcnenlmhbpijlaaLkO
import Derived.Test.YtcnenlmhbpijlaaLkFworst
/- Link: whether modules are wide: some answer. No condition. -/
set_option maxRecDepth 100000
set_option linter.unusedVariables false
set_option linter.unusedSimpArgs false
namespace Go.Proofs.Ytcnenlmhbpijlaa
open Go.Sh Go.RowKit

theorem procs82_c (w : World) (s : SV) (l : List Mod) (hl : RdSl w s l) : Calls Try.prog 82 #[.slice s.a s.len s.cap] w fun e w' => ∃ n : Int, e = .returned (.int .i64 n) ∧ Pu w w' := by
  refine F82_calls s w _ ?_
  have hlen := hl.len
  have hlim := hl.lim
  refine loopUp l.length (fun k t w' => Pu w w' ∧ t.2 = (k : Int)) ⟨Pu.refl w, rfl⟩ ?_
  rintro k J ⟨n, t⟩ w1 hk ⟨hp1, ht⟩ hJ
  obtain rfl : t = (k : Int) := ht
  dsimp only
  refine Br.of (fun hlt => ?_) (fun hge => ⟨_, rfl, hp1⟩)
  have hlt' : k < l.length := by have := dtrue hlt; omega
  obtain ⟨m, hm⟩ := at_k hlt'
  obtain ⟨a, p, z, c, ha, hi, hM, c0, c1, c2, c3, c4⟩ := modAt (hl.pu hp1) hm
  refine ⟨a, ha, by omega, by omega, p, by simpa using c2, ?_⟩
  rw [wrap_in (n := (k : Int) + 1) (by omega) (by omega)]
  exact hJ _ _ hlt' ⟨hp1, rfl⟩
theorem wide_c (w : World) (s : SV) (l : List Mod) (hl : RdSl w s l) : Calls Try.prog 41 #[.slice s.a s.len s.cap] w fun e w' => ∃ b : Bool, e = .returned (.bool b) ∧ Pu w w' := by
  refine F41_calls s w _ ?_
  have hlen := hl.len
  have hlim := hl.lim
  refine loopUp l.length (fun k t w' => Pu w w' ∧ t = (k : Int)) ⟨Pu.refl w, rfl⟩ ?_
  rintro k J t w1 hk ⟨hp1, rfl⟩ hJ
  refine Br.of (fun hlt => ?_) (fun hge => ?_)
  · have hlt' : k < l.length := by have := dtrue hlt; omega
    obtain ⟨m, hm⟩ := at_k hlt'
    obtain ⟨a, p, z, c, ha, hi, hM, c0, c1, c2, c3, c4⟩ := modAt (hl.pu hp1) hm
    have hcl := hM.calls.len
    have hcm := hM.calls.lim
    refine loopUp m.calls.length (fun j t w' => w' = w1 ∧ t = (j : Int)) ⟨rfl, rfl⟩ ?_
    rintro j J2 t w2 hj ⟨rfl, rfl⟩ hJ2
    refine ⟨a, ha, by omega, by omega, c, by simpa using c4, Br.of (fun hlt2 => ?_) (fun hge2 => ?_)⟩
    · have hlt2' : j < m.calls.length := by have := dtrue hlt2; omega
      obtain ⟨x, hx⟩ := at_k hlt2'
      obtain ⟨a5, t5, ha5, hi5, hc5, ht5⟩ := listAt hM.calls hx
      refine ⟨a, ha, by omega, by omega, c, by simpa using c4, a5, ha5, by omega, by omega, t5, by simpa using hc5, Br.of (fun _ => ⟨true, rfl, hp1⟩) (fun _ => ?_)⟩
      rw [wrap_in (n := (j : Int) + 1) (by omega) (by omega)]
      exact hJ2 _ _ hlt2' ⟨rfl, rfl⟩
    · show J _ _
      rw [wrap_in (n := (k : Int) + 1) (by omega) (by omega)]
      exact hJ _ _ hlt' ⟨hp1, rfl⟩
  · refine Calls.mono (procs82_c w1 s l (hl.pu hp1)) ?_
    rintro e w2 ⟨n, rfl, hp2⟩
    exact ⟨n, rfl, _, rfl, hp1.trans hp2⟩
end Go.Proofs.Ytcnenlmhbpijlaa
