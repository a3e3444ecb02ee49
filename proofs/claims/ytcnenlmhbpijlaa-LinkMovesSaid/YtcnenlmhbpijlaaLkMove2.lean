/- Link: the reference's Move, and the law LinkMoves, walked. No condition but the reach's. -/
import Derived.Test.YtcnenlmhbpijlaaLkMove
set_option maxRecDepth 100000
set_option linter.unusedVariables false
set_option linter.unusedSimpArgs false
namespace Go.Proofs.Ytcnenlmhbpijlaa
open Go.Sh Go.RowKit

theorem mrows_of {w : World} {s : SV} {l : List Mod} (h : RdSl w s l) : ∃ rows : List MRow, rows.map (·.m) = l ∧ (∀ r ∈ rows, RdMod w r.m r.p r.z r.c) ∧ ∀ i r, rows[i]? = some r → ∃ a, s.a = some a ∧ ∀ j v, r.cells[j]? = some v → w.cell? (a.add (i * 5 + j)) = some v := by
  have key : ∀ n, n ≤ l.length → ∃ rows : List MRow, rows.map (·.m) = l.take n ∧ (∀ r ∈ rows, RdMod w r.m r.p r.z r.c) ∧ ∀ i r, rows[i]? = some r → ∃ a, s.a = some a ∧ ∀ j v, r.cells[j]? = some v → w.cell? (a.add (i * 5 + j)) = some v := by
    intro n
    induction n with
    | zero => exact fun _ => ⟨[], by simp, by simp, fun i r h => by simp at h⟩
    | succ n ih =>
      intro hn
      obtain ⟨rows, h1, h2, h3⟩ := ih (by omega)
      obtain ⟨m, hm⟩ := at_k (l := l) (k := n) (by omega)
      have hrl : rows.length = n := by have := congrArg List.length h1; simp at this; omega
      obtain ⟨a, ha, vs, g1, g2⟩ := h.get n m hm
      obtain ⟨p, z, c, rfl, hM⟩ : ∃ p s c : SV, vs = modV m p s c ∧ RdMod w m p s c := g1
      refine ⟨rows ++ [⟨m, p, z, c⟩], by rw [List.map_append, h1, take_at hm]; rfl, fun r hr => ?_, fun i r hr => ?_⟩
      · rcases List.mem_append.1 hr with h | h
        · exact h2 r h
        · simp at h; subst h; exact hM
      · by_cases hi : i < rows.length
        · rw [List.getElem?_append_left hi] at hr
          exact h3 i r hr
        · have hil := (List.getElem?_eq_some_iff.1 hr).1
          simp at hil
          have : i = n := by omega
          subst this
          rw [List.getElem?_append_right (by omega), hrl, Nat.sub_self] at hr
          simp at hr; subst hr
          refine ⟨a, ha, fun j v hv => ?_⟩
          have := g2 j v hv
          rw [add_twice] at this
          exact this
  have := key l.length (Nat.le_refl _)
  rwa [List.take_length] at this
theorem flat_inv {rows : List MRow} {j : Nat} {u : Value} (h : (rows.flatMap MRow.cells)[j]? = some u) : ∃ r, rows[j / 5]? = some r ∧ r.cells[j % 5]? = some u := by
  have hj := (List.getElem?_eq_some_iff.1 h).1
  rw [mflat_len] at hj
  obtain ⟨r, hr⟩ := at_k (l := rows) (k := j / 5) (by omega)
  obtain ⟨v, hv⟩ := at_k (l := r.cells) (k := j % 5) (by show j % 5 < 5; omega)
  have := flat_at (f := MRow.cells) (n := 5) (fun _ => rfl) hr hv
  rw [show j / 5 * 5 + j % 5 = j by omega, h] at this
  cases this
  exact ⟨r, hr, hv⟩
theorem flat_set {n : Int} : ∀ {rows : List MRow} {k : Nat} {r : MRow}, rows[k]? = some r → (rows.flatMap MRow.cells).set (k * 5 + 1) (.int .i64 n) = (rows.set k ⟨setO n r.m, r.p, r.z, r.c⟩).flatMap MRow.cells
  | [], k, r, h => by simp at h
  | x :: rs, 0, r, h => by
    simp at h; subst h
    rw [List.set_cons_zero, List.flatMap_cons, List.flatMap_cons]
    rfl
  | x :: rs, k + 1, r, h => by
    have h : rs[k]? = some r := by simpa using h
    have hx : x.cells.length = 5 := rfl
    rw [List.set_cons_succ, List.flatMap_cons, List.flatMap_cons, List.set_append_right _ _ (by rw [hx]; omega), hx, show (k + 1) * 5 + 1 - 5 = k * 5 + 1 by omega, flat_set h]
theorem map_mv {l : List Mod} {name : ByteArray} {o : Int} (hn : (l.map (·.name)).Nodup) {k : Nat} {m : Mod} (hk : l[k]? = some m) (he : m.name = name) : l.map (mv name o) = l.set k (setO o m) := by
  have hkl := (List.getElem?_eq_some_iff.1 hk).1
  apply List.ext_getElem?
  intro i
  rw [List.getElem?_map, List.getElem?_set]
  by_cases hi : k = i
  · subst hi
    rw [if_pos rfl, if_pos hkl, hk]
    simp [mv, he]
  · rw [if_neg hi]
    cases hx : l[i]? with
    | none => rfl
    | some x =>
      have : x.name ≠ name := fun e => hi (by
        have h1 : (l.map (·.name))[k]? = some name := by rw [List.getElem?_map, hk]; simp [he]
        have h2 : (l.map (·.name))[i]? = some name := by rw [List.getElem?_map, hx]; simp [e]
        exact (List.getElem?_inj (by simpa using hkl) hn).1 (h1.trans h2.symm))
      simp [mv, this]

set_option maxHeartbeats 1000000 in
theorem rMove_c (w : World) (s : SV) (l : List Mod) (hl : RdSl w s l) (name : ByteArray) (o : Int) : Calls Try.prog 35 #[.slice s.a s.len s.cap, .string name, .int .i64 o] w fun e w' => ∃ t : SV, e = .returned (.tuple #[.slice t.a t.len t.cap, .int .i64 (moveS l name o).2]) ∧ RdSl w' t (moveS l name o).1 ∧ Pu w w' := by
  refine F35_calls s name o w _ ?_
  refine Calls.mono (rValidate_c w s l hl) ?_
  rintro e w1 ⟨rfl, hp1⟩
  refine ⟨_, rfl, Br.of (fun h1 => ?_) (fun h1 => ?_)⟩
  · have h1 : validS l ≠ 0 := by simpa using h1
    exact ⟨⟨none, 0, 0⟩, by rw [moveS, if_pos h1], by rw [moveS, if_pos h1]; exact RdSl.nil w1 none 0, hp1⟩
  have h1 : validS l = 0 := by simpa using h1
  have hF := fits_of h1
  refine Br.of (fun h2 => ?_) (fun h2 => ?_)
  · have h2 := dtrue h2
    exact ⟨⟨none, 0, 0⟩, by rw [moveS, if_neg (by omega), if_pos (by omega)], by rw [moveS, if_neg (by omega), if_pos (by omega)]; exact RdSl.nil w1 none 0, hp1⟩
  have h2 := dfalse h2
  refine Br.of (fun h3 => ?_) (fun h3 => ?_)
  · have h3 := dtrue h3
    exact ⟨⟨none, 0, 0⟩, by rw [moveS, if_neg (by omega), if_pos (by omega)], by rw [moveS, if_neg (by omega), if_pos (by omega)]; exact RdSl.nil w1 none 0, hp1⟩
  have h3 := dfalse h3
  have hlen := hl.len
  have hl32 := hF.len
  obtain ⟨rows, hrows, hRd, hcells⟩ := mrows_of (hl.pu hp1)
  have hrl : rows.length = l.length := by have := congrArg List.length hrows; simpa using this
  obtain ⟨t9, w2, hra, hrow, hp2, hblk⟩ : ∃ (t9 : SV) (w2 : World), (Builtin.append_ #[22, 22] 22 #[.slice none 0 0, .slice s.a s.len s.cap]).run Try.prog w1 = .ok (.slice t9.a t9.len t9.cap) w2 ∧ RowAt w2 33 5 t9 (rows.flatMap MRow.cells) ∧ Pu w1 w2 ∧ ∀ i ∈ blkOf t9, w1.heap.size ≤ i := by
    obtain ⟨i, q1, q2, q3, q4⟩ := info_parts info33
    cases hsa : s.a with
    | none =>
      have hl0 := nil_of_none hl hsa
      subst hl0
      have hr0 : rows = [] := List.eq_nil_of_length_eq_zero (by simpa using hrl)
      subst hr0
      rw [show s.len = 0 by simpa using hlen]
      exact ⟨⟨none, 0, 0⟩, w1, row_append_nil (P := Try.prog) u22 q1 (RowAt.nil w1 33 5) s.cap, RowAt.nil _ _ _, Pu.refl w1, by simp [blkOf]⟩
    | some a =>
      obtain ⟨t9, w2, hra, hrow, hf, hblk, _⟩ := row_append (P := Try.prog) (t := 22) (ty := 22) u22 q1 q2 q3 rfl (by decide) (RowAt.nil w1 33 5) (a := a) (m := s.len) (c := s.cap) (news := rows.flatMap MRow.cells) (by rw [mflat_len, hrl, hlen]) (fun j u hu => by
        obtain ⟨r, hr, hv⟩ := flat_inv hu
        obtain ⟨a', ha', hc⟩ := hcells _ r hr
        rw [hsa] at ha'; cases ha'
        have := hc _ u hv
        rwa [show j / 5 * 5 + j % 5 = j by omega] at this) (fun u hu => by
        obtain ⟨r, _, hu⟩ := List.mem_flatMap.1 hu
        simp only [MRow.cells, modV, List.mem_cons, List.not_mem_nil, or_false] at hu
        rcases hu with rfl | rfl | rfl | rfl | rfl <;> rfl) (by rw [q4]; show (0 + s.len) * _ ≤ _; omega)
      refine ⟨t9, w2, hra, by simpa using hrow, Pu.andNew (Pu.refl w1) hf (by simp [blkOf]), fun i hi => ?_⟩
      rcases hblk i hi with h | h
      · simp [blkOf] at h
      · exact h
  refine ⟨t9, w2, hra, ?_⟩
  have hP2 := hp1.trans hp2
  have ht9 : t9.len = l.length := by have := hrow.1; rw [mflat_len] at this; omega
  refine loopUp l.length (fun k t w' => w' = w2 ∧ t = (k : Int) ∧ ((l.take k).any fun m => decide (m.name = name)) = false) ⟨rfl, rfl, by simp⟩ ?_
  rintro k J t w3 hk ⟨rfl, rfl, hno⟩ hJ
  refine Br.of (fun hlt => ?_) (fun hge => ?_)
  · have hlt' : k < l.length := by have := dtrue hlt; omega
    obtain ⟨m, hm⟩ := at_k hlt'
    obtain ⟨r, hr⟩ := at_k (l := rows) (k := k) (by omega)
    have hrm : r.m = m := by
      have : (rows.map (·.m))[k]? = some r.m := by rw [List.getElem?_map, hr]; rfl
      rw [hrows, hm] at this
      exact (Option.some.inj this).symm
    have h0 : (rows.flatMap MRow.cells)[k * 5 + 0]? = some (.string m.name) := flat_at (f := MRow.cells) (n := 5) (fun _ => rfl) hr (by rw [← hrm]; rfl)
    obtain ⟨a, ha, hc, _⟩ := hrow.cell h0
    refine ⟨a, ha, by omega, by omega, m.name, by simpa using hc, ?_⟩
    rw [beq_bytes']
    refine Br.of (fun h4 => ?_) (fun h4 => ?_)
    · have h4 : m.name = name := by simpa using h4
      obtain ⟨a3, ha3, hst⟩ := hrow.st1 (j := k * 5 + 1) (by rw [mflat_len]; omega) (.int .i64 o) (K := fun w' => runD Try.prog [] w' fun w5 => (fun e w' => ∃ t : SV, e = .returned (.tuple #[.slice t.a t.len t.cap, .int .i64 (moveS l name o).2]) ∧ RdSl w' t (moveS l name o).1 ∧ Pu w w') (Ending.returned (.tuple #[.slice t9.a t9.len t9.cap, .int .i64 0])) w5) fun w4 hr4 hf4 hs4 => by
        have hany : (l.any fun m => decide (m.name = name)) = true := by
          rw [List.any_eq_true]; exact ⟨m, List.mem_of_getElem? hm, by simpa using h4⟩
        have hp4 : Pu w1 w4 := Pu.andNew hp2 hf4 hblk
        rw [flat_set hr] at hr4
        have hR := rd_of_mods hr4 (fun q hq => by
          rcases List.mem_or_eq_of_mem_set hq with h | h
          · exact (hRd q h).pu hp4
          · subst h
            have g := (hRd r (List.mem_of_getElem? hr)).pu hp4
            exact ⟨by show -9223372036854775808 ≤ o ∧ o ≤ _; omega, g.procs, g.sizes, g.calls⟩) (by rw [List.length_set]; omega)
        have e1 : (rows.set k ⟨setO o r.m, r.p, r.z, r.c⟩).map (·.m) = l.map (mv name o) := by
          rw [List.map_set, hrows, map_mv hF.names hm h4, hrm]
        rw [e1] at hR
        refine ⟨t9, ?_, ?_, hp1.trans hp4⟩
        · rw [moveS, if_neg (by omega), if_neg (by omega), if_pos hany]
        · rw [moveS, if_neg (by omega), if_neg (by omega), if_pos hany]; exact hR
      refine ⟨a3, ha3, by omega, by omega, ?_⟩
      rw [add_twice]
      exact hst
    · rw [wrap_in (n := (k : Int) + 1) (by omega) (by omega)]
      refine hJ _ _ hlt' ⟨rfl, rfl, ?_⟩
      rw [take_at hm, List.any_append, hno]
      simpa using h4
  · have hge' : ¬ k < l.length := by have := dfalse hge; omega
    rw [take_end hk hge'] at hno
    refine ⟨⟨none, 0, 0⟩, ?_, ?_, hP2⟩
    · rw [moveS, if_neg (by omega), if_neg (by omega), if_neg (by rw [hno]; simp)]
    · rw [moveS, if_neg (by omega), if_neg (by omega), if_neg (by rw [hno]; simp)]; exact RdSl.nil w3 none 0

theorem moves_k (w : World) (s : SV) (l : List Mod) (hl : RdSl w s l) (hL : Lim.ok l) (name : ByteArray) (hn : Lim.ok name) (o : Int) (ho : Lim.ok o) : Calls Try.prog 9 #[.slice s.a s.len s.cap, .string name, .int .i64 o] w fun e w' => e = .returned (.bool true) ∧ Pu w w' := by
  refine F9_calls s name o w _ ?_
  have kn : ∀ w1 : World, Pu w w1 → Calls Try.prog 16 #[] w1 fun e w2 => ∃ b : Bool, e = .returned (.bool b) ∧ runD Try.prog [] w2 fun w3 => (Ending.returned (.bool b)) = .returned (.bool true) ∧ Pu w w3 := fun w1 hp => by
    refine Calls.mono (known_c w1) ?_
    rintro e w2 ⟨rfl, hp2⟩
    exact ⟨true, rfl, rfl, hp.trans hp2⟩
  refine Calls.mono (over_c w s l hl) ?_
  rintro e w1 ⟨b, rfl, hp1, hov⟩
  refine ⟨b, rfl, Br.of (fun _ => kn w1 hp1) (fun _ => Br.of (fun _ => kn w1 hp1) (fun _ => ?_))⟩
  refine Calls.mono (move_c w1 s l (hl.pu hp1) hL name o) ?_
  rintro e w2 ⟨t1, rfl, hr1, hp2⟩
  have P2 := hp1.trans hp2
  refine ⟨t1, _, rfl, ?_⟩
  refine Calls.mono (rMove_c w2 s l (hl.pu P2) name o) ?_
  rintro e w3 ⟨t2, rfl, hr2, hp3⟩
  have P3 := P2.trans hp3
  have hr1 := hr1.pu hp3
  refine ⟨t2, _, rfl, ?_⟩
  refine Calls.mono (rSame_c w3 t1 t2 _ _ hr1 hr2) ?_
  rintro e w4 ⟨rfl, hp4⟩
  have P4 := P3.trans hp4
  refine ⟨_, rfl, Br.t (by simp) (Br.t (by simp) ?_)⟩
  refine Calls.mono (same_c w4 t1 s _ _ (hr1.pu hp4) (hl.pu P4)) ?_
  rintro e w5 ⟨rfl, hp5⟩
  have P5 := P4.trans hp5
  refine ⟨_, rfl, ?_⟩
  refine Calls.mono (rSame_c w5 t2 s _ _ (hr2.pu (hp4.trans hp5)) (hl.pu P5)) ?_
  rintro e w6 ⟨rfl, hp6⟩
  have P6 := P5.trans hp6
  refine ⟨_, rfl, Br.t (by simp) ?_⟩
  refine Calls.mono (same_c w6 s s _ _ (hl.pu P6) (hl.pu P6)) ?_
  rintro e w7 ⟨rfl, hp7⟩
  exact ⟨_, rfl, Br.t (by simp) (kn w7 (P6.trans hp7))⟩
end Go.Proofs.Ytcnenlmhbpijlaa
