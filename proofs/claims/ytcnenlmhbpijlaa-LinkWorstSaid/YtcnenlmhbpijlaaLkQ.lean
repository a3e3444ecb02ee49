import Derived.Test.YtcnenlmhbpijlaaLkP
import Derived.Test.YtcnenlmhbpijlaaLkF103
/- Link: the reference's Validate; its list of procedures; what is missing. No condition but the reach's. -/
set_option maxRecDepth 100000
set_option linter.unusedVariables false
set_option linter.unusedSimpArgs false
namespace Go.Proofs.Ytcnenlmhbpijlaa
open Go.Sh Go.RowKit

theorem u82 : Try.prog.underlying 82 = some (.map 9 4) := by kernel_rfl
abbrev evB : Bool → Value := fun b => .bool b
/-- A map of texts to true: a set. -/
def SetAt (w : World) (b : Nat) (keys : List ByteArray) : Prop := MapAt w ekS evB b (keys.map fun k => (k, true))
theorem SetAt.fr {B : Nat → Prop} {w w' : World} {b : Nat} {ks : List ByteArray} (h : SetAt w b ks) (hf : Fr B w w') (hn : ¬ B b) : SetAt w' b ks := MapAt.fr h hf hn
theorem SetAt.pu {w w' : World} {b : Nat} {ks : List ByteArray} (h : SetAt w b ks) (hp : Pu w w') : SetAt w' b ks := MapAt.pu h hp
theorem SetAt.lt {w : World} {b : Nat} {ks : List ByteArray} (h : SetAt w b ks) : b < w.heap.size := MapAt.lt h
theorem has_cons (k : ByteArray) (r : List ByteArray) (x : ByteArray) : has (k :: r) x = (decide (k = x) || has r x) := rfl
theorem set_get (ks : List ByteArray) (x : ByteArray) : AL.get (ks.map fun k => (k, true)) x = if has ks x then some true else none := by
  induction ks with
  | nil => rfl
  | cons k r ih =>
    rw [has_cons]
    simp only [List.map_cons, AL.get]
    by_cases h : k = x
    · simp [h]
    · rw [if_neg h, ih, decide_eq_false h, Bool.false_or]
theorem SetAt.look {w : World} {b : Nat} {ks : List ByteArray} (h : SetAt w b ks) (x : ByteArray) : (Instr.lookup 82 (.map (some b)) (.string x) false).run Try.prog w = .ok (.bool (has ks x)) w := by
  have h1 := MapAt.look h K9 u82 (Try.zeroValue4 w) x false
  simp only [Bool.false_eq_true, if_false] at h1
  rw [h1, set_get]
  cases has ks x <;> rfl
theorem set_put (ks : List ByteArray) (x : ByteArray) : AL.put (ks.map fun k => (k, true)) x true = (if has ks x then ks else ks ++ [x]).map fun k => (k, true) := by
  induction ks with
  | nil => rfl
  | cons k r ih =>
    rw [has_cons]
    simp only [List.map_cons, AL.put]
    by_cases h : k = x
    · simp [h]
    · rw [if_neg h, ih, decide_eq_false h, Bool.false_or]
      cases has r x <;> rfl
theorem SetAt.add {w : World} {b : Nat} {ks : List ByteArray} (h : SetAt w b ks) (x : ByteArray) :
    ∃ w', (Instr.mapUpdate 82 (.map (some b)) (.string x) (.bool true)).run Try.prog w = .ok () w' ∧ SetAt w' b (if has ks x then ks else ks ++ [x]) ∧ Fr (· = b) w w' ∧ w'.heap.size = w.heap.size := by
  obtain ⟨w', h1, h2, h3, h4⟩ := MapAt.upd h K9 u82 x true
  rw [set_put] at h2
  exact ⟨w', h1, h2, h3, h4⟩
theorem SetAt.new (w : World) : SetAt (w.alloc (.map #[] 0)) w.heap.size [] := MapAt.new w ekS evB
theorem has_false {l : List ByteArray} {x : ByteArray} : has l x = false ↔ x ∉ l := by rw [← Bool.not_eq_true, has_iff]
theorem nodup_snoc {l : List ByteArray} {x : ByteArray} (h : l.Nodup) (hx : x ∉ l) : (l ++ [x]).Nodup := List.nodup_append.2 ⟨h, by simp, fun a ha b hb => by
  simp at hb; subst hb; exact fun e => hx (e ▸ ha)⟩
theorem not_nodup_of {A B : List ByteArray} {j : Nat} {x : ByteArray} (hx : B[j]? = some x) (h : x ∈ A ++ B.take j) : ¬ (A ++ B).Nodup := fun hn => not_mem_before hn hx h

set_option maxHeartbeats 1000000 in
theorem rValidate_c (w : World) (s : SV) (l : List Mod) (hl : RdSl w s l) : Calls Try.prog 24 #[.slice s.a s.len s.cap] w fun e w' => e = .returned (.int .i64 (validS l)) ∧ Pu w w' := by
  refine F24_calls s w _ ?_
  refine Calls.mono (rIsLarge_c w s l hl) ?_
  rintro e w1 ⟨rfl, rfl⟩
  refine ⟨_, rfl, Br.of (fun h1 => ⟨by simp [validS, h1], Pu.refl _⟩) (fun h1 => ?_)⟩
  obtain ⟨b1, b2, b3⟩ := large_bounds h1
  have hlen := hl.len
  have z0 : ∀ a : Addr, a.add 0 = a := fun a => by simp [Addr.add]
  -- each module
  refine loopUp l.length (fun k t w' => Pu w1 w' ∧ t = (k : Int) ∧ (l.take k).all rightB = true) ⟨Pu.refl _, rfl, rfl⟩ ?_
  rintro k J t w2 hk ⟨hp2, rfl, hall⟩ hJ
  refine Br.of (fun hlt => ?_) (fun hge => ?_)
  · have hlt' : k < l.length := by have := dtrue hlt; omega
    obtain ⟨m, hm⟩ := at_k hlt'
    obtain ⟨a, p, z, c, ha, hi, hM, c0, c1, c2, c3, c4⟩ := modAt (hl.pu hp2) hm
    refine ⟨a, ha, by omega, by omega, m.name, by simpa using c0, m.ov, by simpa using c1, p, by simpa using c2, z, by simpa using c3, c, by simpa using c4, ?_⟩
    refine Calls.mono (rIsModule_c w2 m p z c hM) ?_
    rintro e w3 ⟨rfl, hp3⟩
    refine ⟨_, rfl, Br.of (fun h2 => ?_) (fun h2 => ?_)⟩
    · have h2 : rightB m = false := by simpa using h2
      exact ⟨by simp [validS, h1, not_all_of hm h2], hp2.trans hp3⟩
    · have h2 : rightB m = true := by simpa using h2
      rw [wrap_in (by omega) (by omega)]
      exact hJ _ _ hlt' ⟨hp2.trans hp3, rfl, by rw [all_take hm, hall, h2]; rfl⟩
  have hge' : ¬ k < l.length := by have := dfalse hge; omega
  rw [take_end hk hge'] at hall
  clear hJ hge hge' hk
  -- what fits
  refine loopUp l.length (fun k t w' => Pu w1 w' ∧ t = (k : Int) ∧ (l.take k).all fitB = true) ⟨hp2, rfl, rfl⟩ ?_
  rintro k J t w3 hk ⟨hp3, rfl, hfit⟩ hJ
  refine Br.of (fun hlt => ?_) (fun hge => ?_)
  · have hlt' : k < l.length := by have := dtrue hlt; omega
    obtain ⟨m, hm⟩ := at_k hlt'
    refine dwE_intro fun w4 hp4 hh4 => ?_
    obtain ⟨a, p, z, c, ha, hi, hM, c0, c1, c2, c3, c4⟩ := modAt (hl.pu (hp3.trans hp4)) hm
    have hpl := hM.procs.len
    have hzl := hM.sizes.len
    have hcl := hM.calls.len
    refine ⟨a, ha, by omega, by omega, z, by simpa using c3, a, ha, by omega, by omega, p, by simpa using c2, Br.of (fun h2 => ?_) (fun h2 => ?_)⟩
    · have h2 : ¬ ((z.len : Nat) : Int) = ((p.len : Nat) : Int) := by simpa using h2
      have h3 : ¬ m.sizes.length = m.procs.length := by omega
      have h4 : fitB m = false := by simp [fitB, h3]
      exact ⟨by simp [validS, h1, hall, not_all_of hm h4], hp3.trans hp4⟩
    have h2 : ((z.len : Nat) : Int) = ((p.len : Nat) : Int) := by simpa using h2
    refine ⟨a, ha, by omega, by omega, c, by simpa using c4, a, ha, by omega, by omega, p, by simpa using c2, Br.of (fun h3 => ?_) (fun h3 => ?_)⟩
    · have h3 : ¬ ((c.len : Nat) : Int) = ((p.len : Nat) : Int) := by simpa using h3
      have h5 : ¬ m.calls.length = m.procs.length := by omega
      have h4 : fitB m = false := by simp [fitB, h5]
      exact ⟨by simp [validS, h1, hall, not_all_of hm h4], hp3.trans hp4⟩
    · have h3 : ((c.len : Nat) : Int) = ((p.len : Nat) : Int) := by simpa using h3
      rw [wrap_in (by omega) (by omega)]
      refine hJ _ _ hlt' ⟨hp3.trans hp4, rfl, ?_⟩
      have e1 : m.sizes.length = m.procs.length := by omega
      have e2 : m.calls.length = m.procs.length := by omega
      rw [all_take hm, hfit]; simp [fitB, e1, e2]
  have hge' : ¬ k < l.length := by have := dfalse hge; omega
  rw [take_end hk hge'] at hfit
  clear hJ hge hge' hk
  have hV : validS l = if decide ((l.map (·.name)).Nodup) && decide ((allProcs l).Nodup) then 0 else 5 := by simp [validS, h1, hall, hfit]
  have five : ∀ w', Pu w1 w' → (¬ (l.map (·.name)).Nodup ∨ ¬ (allProcs l).Nodup) → (Ending.returned (.int .i64 5) = .returned (.int .i64 (validS l)) ∧ Pu w1 w') := fun w' hp h => by
    refine ⟨?_, hp⟩
    rw [hV]
    rcases h with h | h <;> simp [h]
  -- what stands twice
  refine alE_intro fun w4 hw4 => alE_intro fun w5 hw5 => ?_
  have hp4 : Pu w3 w4 := by rw [hw4]; exact Pu.alloc w3 _
  have hp5 : Pu w4 w5 := by rw [hw5]; exact Pu.alloc w4 _
  have hs4 : w4.heap.size = w3.heap.size + 1 := by rw [hw4]; simp
  have hs5 : w5.heap.size = w4.heap.size + 1 := by rw [hw5]; simp
  have hm5 : SetAt w5 w3.heap.size [] := SetAt.pu (by rw [hw4]; exact SetAt.new w3) hp5
  have hm6 : SetAt w5 w4.heap.size [] := by rw [hw5]; exact SetAt.new w4
  have hs3 := hp3.size
  refine loopUp l.length (fun k t w' => Pu w1 w' ∧ t = (k : Int) ∧ SetAt w' w3.heap.size ((l.take k).map (·.name)) ∧ SetAt w' w4.heap.size (allProcs (l.take k)) ∧ ((l.take k).map (·.name)).Nodup ∧ (allProcs (l.take k)).Nodup)
    ⟨(hp3.trans hp4).trans hp5, rfl, hm5, hm6, by simp, by simp [allProcs]⟩ ?_
  rintro k J t w6 hk ⟨hp6, rfl, hA, hB, hnA, hnB⟩ hJ
  refine Br.of (fun hlt => ?_) (fun hge => ?_)
  · have hlt' : k < l.length := by have := dtrue hlt; omega
    obtain ⟨m, hm⟩ := at_k hlt'
    obtain ⟨a, p, z, c, ha, hi, hM, c0, c1, c2, c3, c4⟩ := modAt hl hm
    rw [z0] at c0
    have hmn : (l.map (·.name))[k]? = some m.name := by rw [List.getElem?_map, hm]; rfl
    refine ⟨a, ha, by omega, by omega, m.name, by simpa using hp6.cell c0, _, w6, hA.look m.name, Br.of (fun h2 => ?_) (fun h2 => ?_)⟩
    · have hin := has_iff.1 h2
      exact five w6 hp6 (.inl (not_nodup_of (A := []) hmn (by rw [List.nil_append, ← List.map_take]; exact hin)))
    have hnin := has_false.1 h2
    refine ⟨a, ha, by omega, by omega, m.name, by simpa using hp6.cell c0, ?_⟩
    obtain ⟨w7, hu7, hA7, hf7, hs7⟩ := hA.add m.name
    rw [h2, if_neg (by simp)] at hA7
    refine ⟨w7, hu7, ?_⟩
    have hp7 : Pu w1 w7 := Pu.andNew hp6 hf7 fun i hi => by omega
    have hB7 := hB.fr hf7 (by omega)
    have hpl := hM.procs.len
    have hplim := hM.procs.lim
    refine loopUp m.procs.length (fun j t w' => Pu w1 w' ∧ t = (j : Int) ∧ SetAt w' w3.heap.size ((l.take k).map (·.name) ++ [m.name]) ∧ SetAt w' w4.heap.size (allProcs (l.take k) ++ m.procs.take j) ∧ (allProcs (l.take k) ++ m.procs.take j).Nodup)
      ⟨hp7, rfl, hA7, by simpa using hB7, by simpa using hnB⟩ ?_
    rintro j J2 t w8 hj ⟨hp8, rfl, hA8, hB8, hn8⟩ hJ2
    refine ⟨a, ha, by omega, by omega, p, by simpa using hp8.cell c2, Br.of (fun hlt2 => ?_) (fun hge2 => ?_)⟩
    · have hlt2' : j < m.procs.length := by have := dtrue hlt2; omega
      obtain ⟨x, hx⟩ := at_k hlt2'
      obtain ⟨a2, ha2, hi2, hc2⟩ := hM.procs.str hx
      refine ⟨a, ha, by omega, by omega, p, by simpa using hp8.cell c2, a2, ha2, by omega, by omega, x, by simpa using hp8.cell hc2, _, w8, hB8.look x, Br.of (fun h3 => ?_) (fun h3 => ?_)⟩
      · have hin := has_iff.1 h3
        refine five w8 hp8 (.inr fun hn => ?_)
        have hn' := nodup_take hn (k := k + 1)
        rw [allProcs_take hm] at hn'
        exact not_nodup_of hx hin hn'
      have hnin' := has_false.1 h3
      refine ⟨a, ha, by omega, by omega, p, by simpa using hp8.cell c2, a2, ha2, by omega, by omega, x, by simpa using hp8.cell hc2, ?_⟩
      obtain ⟨w9, hu9, hB9, hf9, hs9⟩ := hB8.add x
      rw [h3, if_neg (by simp)] at hB9
      refine ⟨w9, hu9, ?_⟩
      rw [wrap_in (by omega) (by omega)]
      refine hJ2 _ _ hlt2' ⟨Pu.andNew hp8 hf9 fun i hi => by omega, rfl, hA8.fr hf9 (by omega), ?_, ?_⟩
      · rw [take_at hx, ← List.append_assoc]; exact hB9
      · rw [take_at hx, ← List.append_assoc]; exact nodup_snoc hn8 hnin'
    · have hge2' : ¬ j < m.procs.length := by have := dfalse hge2; omega
      rw [take_end hj hge2'] at hB8 hn8
      show J _ _
      rw [wrap_in (by omega) (by omega)]
      refine hJ _ _ hlt' ⟨hp8, rfl, ?_, ?_, ?_, ?_⟩
      · rw [take_at hm, List.map_append]; exact hA8
      · rw [allProcs_take hm]; exact hB8
      · rw [take_at hm, List.map_append]; exact nodup_snoc hnA hnin
      · rw [allProcs_take hm]; exact hn8
  · have hge' : ¬ k < l.length := by have := dfalse hge; omega
    rw [take_end hk hge'] at hnA hnB
    refine ⟨?_, hp6⟩
    rw [hV]; simp [hnA, hnB]
end Go.Proofs.Ytcnenlmhbpijlaa
