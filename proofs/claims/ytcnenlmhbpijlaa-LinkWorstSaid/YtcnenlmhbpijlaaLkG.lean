import Derived.Test.YtcnenlmhbpijlaaLkE
/- Link: what is called and not there; modules opened. No condition but the reach's. -/
set_option maxRecDepth 100000
set_option linter.unusedVariables false
set_option linter.unusedSimpArgs false
namespace Go.Proofs.Ytcnenlmhbpijlaa
open Go.Sh Go.RowKit

/-- What is called and not there. -/
def missL (D : List PDat) : List ByteArray := D.flatMap fun q => q.2.2.filter fun c => !isIn D c
def missS (D : List PDat) : List ByteArray := setS (missL D)
theorem mem_missL {D : List PDat} {x : ByteArray} : x ∈ missL D ↔ ∃ q ∈ D, x ∈ q.2.2 ∧ isIn D x = false := by
  simp [missL, List.mem_flatMap, List.mem_filter]
theorem missL_len {D : List PDat} (h : ∀ q ∈ D, q.2.2.length ≤ 100) : (missL D).length ≤ D.length * 100 := by
  have key : ∀ (E : List PDat), (∀ q ∈ E, q.2.2.length ≤ 100) → (E.flatMap fun q => q.2.2.filter fun c => !isIn D c).length ≤ E.length * 100 := by
    intro E
    induction E with
    | nil => intro _; simp
    | cons q r ih =>
      intro h
      have h1 := ih fun q hq => h q (List.mem_cons_of_mem _ hq)
      have h2 := h q List.mem_cons_self
      have h3 := List.length_filter_le (fun c => !isIn D c) q.2.2
      simp only [List.flatMap_cons, List.length_append, List.length_cons]
      omega
  exact key D h

theorem key_unique {D : List PDat} (h : (D.map Prod.fst).Nodup) {p q : PDat} (hp : p ∈ D) (hq : q ∈ D) (e : p.1 = q.1) : p = q := by
  have h1 : AL.get D p.1 = some p.2 := AL.get_of_mem h (by simpa using hp)
  have h2 : AL.get D q.1 = some q.2 := AL.get_of_mem h (by simpa using hq)
  rw [e, h2] at h1
  exact Prod.ext e (Option.some.inj h1).symm

set_option maxHeartbeats 1000000 in
theorem missing_c (w : World) (b : Nat) (L : List PRow) (D : List PDat) (hM : MapAt w ekS evP b L) (hR : RdP w L D) (hD : D.length ≤ 100) (hC : ∀ q ∈ D, q.2.2.length ≤ 100) :
    Calls Try.prog 53 #[.map (some b)] w fun e w' => ∃ s' : SV, e = .returned (.slice s'.a s'.len s'.cap) ∧ s'.len = (missS D).length ∧ RowAt w' 9 1 s' (strV (missS D)) ∧ (∀ k ∈ blkOf s', w.heap.size ≤ k) ∧ Pu w w' := by
  refine F53_calls _ w _ ?_
  have hbl := hM.lt
  have hnod : (L.map Prod.fst).Nodup := hM.nodup
  have hnodD : (D.map Prod.fst).Nodup := by rw [← hR.keys]; exact hnod
  have hLD : L.length = D.length := by have := congrArg List.length hR.keys; simpa using this
  obtain ⟨w1, hr1, hit1, hp1, hs1⟩ := hM.range (t := 57) u57
  refine ⟨_, w1, hr1, ?_⟩
  refine loopDown L.length (fun n l3 w' => ∃ todo out, todo.length = n ∧ IterAt w' ekS evP w.heap.size b L todo ∧ (∀ p ∈ todo, p ∈ L) ∧ RowAt w' 9 1 l3 (strV out) ∧ (∀ i ∈ blkOf l3, w.heap.size < i) ∧ Pu w w' ∧ out.length + n * 100 ≤ 10000 ∧
      (∀ x ∈ out, ∃ q ∈ D, x ∈ q.2.2 ∧ isIn D x = false) ∧ (∀ q ∈ D, ∀ x ∈ q.2.2, isIn D x = false → x ∈ out ∨ q.1 ∈ todo.map Prod.fst))
    ⟨L, [], rfl, hit1, fun p h => h, RowAt.nil _ _ _, fun i hi => by simp [blkOf] at hi, hp1, by simp; omega, fun x hx => by simp at hx, fun q hq x hx h => .inr (by rw [hR.keys]; exact List.mem_map_of_mem hq)⟩ ?_
  rintro n J l3 w2 ⟨todo, out, hn, hit, hsub, hrow, hf3, hp2, hlen, hA, hB⟩ hJ
  rcases hit.next (P := Try.prog) 0 with ⟨rfl, hr⟩ | ⟨p, hpm, w3, hr, hf3', hs3, hit3, hen⟩
  · refine .inl ⟨w2, hr, ?_⟩
    have hbound : out.length ≤ 10000 := by omega
    refine Calls.mono (sort_c w2 l3 out hrow (by omega)) ?_
    rintro e w3 ⟨rfl, hrow3, hf3'⟩
    refine ⟨rfl, ?_⟩
    refine Calls.mono (compact_c w3 l3 (srt out) hrow3 (by rw [srt_length]; omega)) ?_
    rintro e w4 ⟨s4, rfl, hl4, hrow4, hf4, hb4⟩
    have hset : cpt (srt out) = missS D := setS_ext fun x => by
      rw [mem_missL]
      refine ⟨hA x, ?_⟩
      rintro ⟨q, hq, hx, hn⟩
      rcases hB q hq x hx hn with h | h
      · exact h
      · simp at h
    refine ⟨s4, rfl, s4, rfl, by rw [hl4, hset], by rw [← hset]; exact hrow4, fun k hk => ?_, ?_⟩
    · rw [hb4] at hk; exact Nat.le_of_lt (hf3 k hk)
    · exact Pu.andNew (Pu.andNew hp2 hf3' fun i hi => Nat.le_of_lt (hf3 i hi)) hf4 fun i hi => Nat.le_of_lt (hf3 i hi)
  · refine .inr ⟨_, _, w3, hr, ?_⟩
    have hp3 : Pu w w3 := Pu.andNew hp2 hf3' fun i hi => by omega
    have hrow3 := hrow.fr hf3' fun i hi hx => by have := hf3 i hi; omega
    obtain ⟨c, hc, hcD⟩ := hR.mem (hsub p hpm)
    have hc100 := hC _ hcD
    have hc100 : c.length ≤ 100 := hc100
    refine ⟨_, _, w3, hen, ?_⟩
    simp only [dAgg_mk, dHd_mk, dInt_mk, dSl_mk, dNil_mk]
    refine boxA (by rfl) (by kernel_rfl) (by rfl) fun w4 hp4 hs4 hb4 => ?_
    refine ⟨p.2.2, by rw [add_def, cell_blk hb4]; rfl, ?_⟩
    have hcl := hc.len
    have hn0 : (AL.del todo p.1).length + 1 = n := by rw [AL.length_del hpm hit.nodup, hn]
    have hltr := hit.ltr
    refine loopUp c.length (fun j t w' => t.2 = (j : Int) ∧ ∃ ex, IterAt w' ekS evP w.heap.size b L (AL.del todo p.1) ∧ RowAt w' 9 1 t.1 (strV (out ++ ex)) ∧ (∀ i ∈ blkOf t.1, w.heap.size < i) ∧ Pu w w' ∧ ex = (c.take j).filter (fun x => !isIn D x))
      ⟨rfl, [], hit3.fr (Fr.pu hp4 : Fr (fun _ => False) _ _) (fun h => h) (fun h => h), by simpa using hrow3.pu hp4, hf3, hp3.trans hp4, rfl⟩ ?_
    rintro j J2 ⟨l3', t⟩ w5 hj ⟨ht, ex, hit5, hrow5, hf5, hp5, hex⟩ hJ2
    have ht : t = (j : Int) := ht
    have hrow5 : RowAt w5 9 1 l3' (strV (out ++ ex)) := hrow5
    have hf5 : ∀ i ∈ blkOf l3', w.heap.size < i := hf5
    subst ht
    refine Br.of (fun hlt => ?_) (fun hge => ?_)
    · have hlt' : j < c.length := by have := dtrue hlt; omega
      obtain ⟨x, hx⟩ := at_k hlt'
      obtain ⟨a, ha, hi, hca⟩ := (hc.pu hp5).str hx
      refine ⟨a, ha, by omega, by omega, x, by simpa using hca, ?_⟩
      refine ⟨_, _, _, w5, (look57 hit5.map x).1, ?_⟩
      refine boxA (by rfl) (by kernel_rfl) (by rfl) fun w6 hp6 hs6 hb6 => ?_
      have hisome : (AL.get L x).isSome = isIn D x := (hR.get x).1
      rw [hisome]
      have hltr5 := hit5.ltr
      have hbl5 := hit5.map.lt
      refine Br.of (fun h1 => ?_) (fun h1 => ?_)
      · have h1 : isIn D x = false := by simpa using h1
        refine alE_intro fun w7 hw7 => ?_
        have hp7 : Pu w6 w7 := by rw [hw7]; exact Pu.alloc w6 _
        have hn7 : w7.heap[w6.heap.size]? = some (.cells #[.string x] 9) := by rw [hw7]; exact alloc_new w6 _
        have hl3' : l3'.len = (out ++ ex).length := by have := hrow5.1; simp at this; simp; omega
        have hexl : ex.length ≤ 100 := by
          have := List.length_filter_le (fun x => !isIn D x) (c.take j)
          have h2 : (c.take j).length ≤ c.length := by simp; omega
          rw [hex]; omega
        obtain ⟨l34, w8, hra, hrow8, hf8, hblk8, hlen8⟩ := row_push (P := Try.prog) (ty := 23) (t := 23) u23 info_str rfl (s := l3') ((hrow5.pu hp6).pu hp7) (a := ⟨w6.heap.size, 0, none⟩) (u := .string x) (by rw [cell_blk hn7]; rfl) rfl (by simp at hl3'; omega)
        refine ⟨l34, w8, hra, ?_⟩
        show J2 _ _
        rw [wrap_in (by omega) (by omega)]
        have hsz5 := hp5.size
        have hsz6 := hp6.size
        have hsz7 := hp7.size
        refine hJ2 _ _ hlt' ⟨rfl, ex ++ [x], (hit5.fr (Fr.pu (hp6.trans hp7) : Fr (fun _ => False) _ _) (fun h => h) (fun h => h)).fr hf8 (fun h => by have := hf5 _ h; omega) (fun h => by have := hf5 _ h; omega), ?_, ?_, ?_, ?_⟩
        · show RowAt w8 9 1 l34 _
          have e : strV (out ++ (ex ++ [x])) = strV (out ++ ex) ++ [Value.string x] := by simp [strV]
          rw [e]; exact hrow8
        · intro i hi
          rcases hblk8 i hi with h | h
          · exact hf5 i h
          · omega
        · exact Pu.andNew ((hp5.trans hp6).trans hp7) hf8 fun i hi => Nat.le_of_lt (hf5 i hi)
        · rw [take_at hx, List.filter_append, ← hex]; simp [h1]
      · have h1 : isIn D x = true := by simpa using h1
        show J2 _ _
        rw [wrap_in (by omega) (by omega)]
        refine hJ2 _ _ hlt' ⟨rfl, ex, hit5.fr (Fr.pu hp6 : Fr (fun _ => False) _ _) (fun h => h) (fun h => h), hrow5.pu hp6, hf5, hp5.trans hp6, ?_⟩
        rw [take_at hx, List.filter_append, ← hex]; simp [h1]
    · have hge' : ¬ j < c.length := by have := dfalse hge; omega
      rw [take_end hj hge'] at hex
      refine hJ (AL.del todo p.1).length _ _ (by omega) ⟨AL.del todo p.1, out ++ ex, rfl, hit5, ?_, hrow5, hf5, hp5, ?_, ?_, ?_⟩
      · intro q hq
        have := (AL.perm_del hpm hit.nodup).mem_iff (a := q)
        exact hsub q (this.2 (List.mem_cons_of_mem _ hq))
      · have := List.length_filter_le (fun x => !isIn D x) c
        rw [← hex] at this
        simp; omega
      · intro x hx
        rcases List.mem_append.1 hx with h | h
        · exact hA x h
        · rw [hex, List.mem_filter] at h
          exact ⟨_, hcD, h.1, by simpa using h.2⟩
      · intro q hq x hx hn'
        rcases hB q hq x hx hn' with h | h
        · exact .inl (List.mem_append_left _ h)
        · by_cases e : q.1 = p.1
          · have e2 : q = (p.1, p.2.1, c) := key_unique hnodD hq hcD e
            subst e2
            exact .inl (List.mem_append_right _ (by rw [hex, List.mem_filter]; exact ⟨hx, by simp [hn']⟩))
          · right
            have hpm' := ((AL.perm_del hpm hit.nodup).map Prod.fst).mem_iff (a := q.1)
            rcases List.mem_cons.1 (hpm'.1 h) with h' | h'
            · exact absurd h' e
            · exact h'
end Go.Proofs.Ytcnenlmhbpijlaa
