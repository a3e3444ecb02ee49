import Derived.Test.YtcnenlmhbpijlaaLkReachAll
import Derived.Test.YtcnenlmhbpijlaaLkFtrims
/- Link: what is left of modules is right, and nothing changes in it: the plain law. No condition. -/
set_option maxRecDepth 100000
set_option linter.unusedVariables false
set_option linter.unusedSimpArgs false
namespace Go.Proofs.Ytcnenlmhbpijlaa
open Go.Sh Go.RowKit

theorem rp_mem {m : Mod} {r : RP} (h : r ∈ rpOf m) : r.ov = m.ov ∧ r.name ∈ m.procs ∧ r.size ∈ m.sizes ∧ r.calls ∈ m.calls := by
  unfold rpOf at h
  obtain ⟨q, hq, rfl⟩ := List.mem_map.1 h
  have h1 := List.of_mem_zip hq
  have h2 := List.of_mem_zip h1.1
  exact ⟨rfl, h2.1, h2.2, h1.2⟩
theorem rp_modOf {m : Mod} {f : List RP} (h : ∀ r ∈ f, r.ov = m.ov) : rpOf (modOf m f) = f := by
  unfold rpOf modOf
  induction f with
  | nil => rfl
  | cons r f ih =>
    simp only [List.map_cons, List.zip_cons_cons] at ih ⊢
    rw [ih fun x hx => h x (List.mem_cons_of_mem _ hx)]
    have := h r List.mem_cons_self
    cases r
    simp_all
theorem keepR_mem {V : List ByteArray} {L : List RP} {r : RP} (h : r ∈ keepR V L) : r ∈ L ∧ has V r.name = true := List.mem_filter.1 h
theorem rp_keep {V : List ByteArray} {m : Mod} : rpOf (modOf m (keepR V (rpOf m))) = keepR V (rpOf m) := rp_modOf fun r hr => (rp_mem (keepR_mem hr).1).1
theorem trimL_cons (V : List ByteArray) (m : Mod) (l : List Mod) : trimL V (m :: l) = (if 0 < (keepR V (rpOf m)).length then [modOf m (keepR V (rpOf m))] else []) ++ trimL V l := by
  unfold trimL
  rw [List.map_cons, List.filter_cons]
  simp only [modOf, List.length_map]
  by_cases h : 0 < (keepR V (rpOf m)).length <;> simp [h]
theorem trim_mem {V : List ByteArray} {l : List Mod} {m' : Mod} (h : m' ∈ trimL V l) : ∃ m ∈ l, m' = modOf m (keepR V (rpOf m)) ∧ 0 < (keepR V (rpOf m)).length := by
  unfold trimL at h
  obtain ⟨h1, h2⟩ := List.mem_filter.1 h
  obtain ⟨m, hm, rfl⟩ := List.mem_map.1 h1
  exact ⟨m, hm, rfl, by simpa [modOf] using h2⟩
theorem RL_trim (V : List ByteArray) : ∀ l : List Mod, RL (trimL V l) = keepR V (RL l)
  | [] => rfl
  | m :: l => by
    have ih := RL_trim V l
    have e : RL (m :: l) = rpOf m ++ RL l := by simp [RL]
    rw [trimL_cons, e]
    unfold keepR at ih ⊢
    rw [List.filter_append, ← ih]
    have e2 : ∀ a b : List Mod, RL (a ++ b) = RL a ++ RL b := fun a b => by simp [RL]
    rw [e2]
    congr 1
    split
    · have := rp_keep (V := V) (m := m)
      simpa [RL, keepR] using this
    · rename_i h
      have h0 : keepR V (rpOf m) = [] := List.eq_nil_of_length_eq_zero (by unfold keepR; omega)
      unfold keepR at h0
      rw [h0]; rfl
theorem PL_trim {V : List ByteArray} {l : List Mod} (hF : Fits l) : PL (trimL V l) = (PL l).filter fun p => has V p.1 := by
  rw [← RL_dat hF.sizes, ← RL_dat (l := trimL V l) fun m' hm' => by
    obtain ⟨m, _, rfl, _⟩ := trim_mem hm'
    simp [modOf], RL_trim, List.filter_map]
  rfl
theorem get_filter (V : List ByteArray) (x : ByteArray) : ∀ D : List PDat, AL.get (D.filter fun p => has V p.1) x = if has V x then AL.get D x else none
  | [] => by simp [AL.get]
  | (a, p) :: D => by
    have ih := get_filter V x D
    rw [List.filter_cons]
    by_cases ha : has V a = true
    · simp only [ha, if_true, AL.get]
      by_cases hx : a = x
      · subst hx; simp [ha]
      · rw [if_neg hx, if_neg hx, ih]
    · simp only [ha, Bool.false_eq_true, if_false, AL.get]
      rw [ih]
      by_cases hx : a = x
      · subst hx; simp [ha]
      · rw [if_neg hx]
theorem isIn_trim {V : List ByteArray} {l : List Mod} (hF : Fits l) (x : ByteArray) : isIn (PL (trimL V l)) x = (has V x && isIn (PL l) x) := by
  unfold isIn
  rw [PL_trim hF, get_filter]
  cases has V x <;> simp
theorem getD_trim {V : List ByteArray} {l : List Mod} (hF : Fits l) {x : ByteArray} (h : x ∈ V) : getD (PL (trimL V l)) x = getD (PL l) x := by
  unfold getD
  rw [PL_trim hF, get_filter, if_pos (has_iff.2 h)]

theorem valid_fits {l : List Mod} (hF : Fits l) : validS l = 0 := by
  have h1 : largeB l = false := by
    unfold largeB
    simp only [Bool.or_eq_false_iff, decide_eq_false_iff_not, List.any_eq_false]
    refine ⟨⟨fun m hm => ?_, by have := hF.len; omega⟩, by have := hF.procs; omega⟩
    simp only [List.any_eq_true, not_exists]
    rintro c ⟨hc, hd⟩
    have := hF.calls m hm c hc
    have := of_decide_eq_true hd
    omega
  have h2 : l.all rightB = true := List.all_eq_true.2 hF.right
  have h3 : l.all fitB = true := List.all_eq_true.2 fun m hm => by simp [fitB, hF.sizes m hm, hF.callsL m hm]
  unfold validS
  rw [h1, h2, h3]
  simp [hF.names, hF.nodup]
theorem nprocs_trim {V : List ByteArray} : ∀ {l : List Mod}, (∀ m ∈ l, m.sizes.length = m.procs.length ∧ m.calls.length = m.procs.length) → nprocs (trimL V l) ≤ nprocs l
  | [], _ => by simp [trimL, nprocs]
  | m :: l, h => by
    have ih := nprocs_trim (V := V) (l := l) fun x hx => h x (List.mem_cons_of_mem _ hx)
    have h1 := h m List.mem_cons_self
    have h2 := List.length_filter_le (fun r : RP => has V r.name) (rpOf m)
    rw [rpOf_len h1.1 h1.2] at h2
    rw [trimL_cons]
    have e : ∀ a b : List Mod, nprocs (a ++ b) = nprocs a + nprocs b := fun a b => by simp [nprocs]
    rw [e, show nprocs (m :: l) = m.procs.length + nprocs l by simp [nprocs]]
    have h3 : nprocs (if 0 < (keepR V (rpOf m)).length then [modOf m (keepR V (rpOf m))] else []) ≤ m.procs.length := by
      split
      · simpa [nprocs, modOf, keepR] using h2
      · simp [nprocs]
    omega
theorem fits_trim {V : List ByteArray} {l : List Mod} (hF : Fits l) : Fits (trimL V l) where
  len := Nat.le_trans (trimL_len V l) hF.len
  procs := Nat.le_trans (nprocs_trim fun m hm => ⟨hF.sizes m hm, hF.callsL m hm⟩) hF.procs
  calls m' hm' c hc := by
    obtain ⟨m, hm, rfl, _⟩ := trim_mem hm'
    obtain ⟨r, hr, rfl⟩ := List.mem_map.1 (show c ∈ (keepR V (rpOf m)).map (·.calls) from hc)
    exact (rpOf_mem hF hm (keepR_mem hr).1).2
  right m' hm' := by
    obtain ⟨m, hm, rfl, _⟩ := trim_mem hm'
    have h := hF.right m hm
    unfold rightB at h ⊢
    simp only [Bool.and_eq_true, List.all_eq_true] at h ⊢
    obtain ⟨⟨⟨⟨⟨h1, h2⟩, h3⟩, h4⟩, h5⟩, h6⟩ := h
    refine ⟨⟨⟨⟨⟨h1, h2⟩, h3⟩, fun x hx => ?_⟩, fun x hx => ?_⟩, fun x hx => ?_⟩
    · obtain ⟨r, hr, rfl⟩ := List.mem_map.1 (show x ∈ (keepR V (rpOf m)).map (·.name) from hx)
      exact h4 _ (rp_mem (keepR_mem hr).1).2.1
    · obtain ⟨r, hr, rfl⟩ := List.mem_map.1 (show x ∈ (keepR V (rpOf m)).map (·.size) from hx)
      exact h5 _ (rp_mem (keepR_mem hr).1).2.2.1
    · obtain ⟨r, hr, rfl⟩ := List.mem_map.1 (show x ∈ (keepR V (rpOf m)).map (·.calls) from hx)
      exact h6 _ (rp_mem (keepR_mem hr).1).2.2.2
  sizes m' hm' := by
    obtain ⟨m, hm, rfl, _⟩ := trim_mem hm'
    simp [modOf]
  callsL m' hm' := by
    obtain ⟨m, hm, rfl, _⟩ := trim_mem hm'
    simp [modOf]
  names := by
    have h1 : ((trimL V l).map (·.name)).Sublist (l.map (·.name)) := by
      have h2 := (List.filter_sublist (p := fun m : Mod => decide (0 < m.procs.length)) (l := l.map fun m => modOf m (keepR V (rpOf m)))).map (·.name)
      have e : (l.map fun m => modOf m (keepR V (rpOf m))).map (·.name) = l.map (·.name) := by rw [List.map_map]; rfl
      rw [e] at h2
      exact h2
    exact hF.names.sublist h1
  nodup := by
    rw [← PL_keys (l := trimL V l) fun m' hm' => by
      obtain ⟨m, hm, rfl, _⟩ := trim_mem hm'
      simp [modOf], PL_trim hF]
    have := hF.nodup
    rw [← PL_keys hF.callsL] at this
    exact this.sublist (List.filter_sublist.map _)
theorem get_nodup {x : ByteArray} {p : Int × List ByteArray} : ∀ {D : List PDat}, (D.map Prod.fst).Nodup → (x, p) ∈ D → AL.get D x = some p
  | [], _, h => by simp at h
  | (a, q) :: D, hn, h => by
    simp only [List.map_cons, List.nodup_cons] at hn
    rcases List.mem_cons.1 h with h | h
    · cases h; simp [AL.get]
    · have hne : a ≠ x := fun e => hn.1 (e ▸ List.mem_map.2 ⟨(x, p), h, rfl⟩)
      simp only [AL.get, if_neg hne]
      exact get_nodup hn.2 h

/-- What is left of modules that fit: it fits; what is reached is the same, and the walks. -/
theorem left_law {l : List Mod} {name : ByteArray} {V : List ByteArray} (h : fromE l name = 0) (hV : ∀ y, y ∈ V ↔ Reached (PL l) name y) :
    fromE (trimL V l) name = 0 ∧ (∀ y, Reached (PL (trimL V l)) name y ↔ Reached (PL l) name y) ∧ ∀ walk, loadsS (trimL V l) name walk = loadsS l name walk := by
  obtain ⟨ho, hin⟩ := from_open h
  have hF := fits_of (open_valid ho)
  have hT := fits_trim (V := V) hF
  have hv := valid_fits hT
  have hcl : ∀ x ∈ V, ∀ y ∈ (getD (PL l) x).2, y ∈ V := fun x hx y hy => (hV y).2 (.call ((hV x).1 hx) hy)
  have hname : name ∈ V := (hV name).2 .self
  have hmiss : missL (PL (trimL V l)) = [] := by
    apply List.eq_nil_iff_forall_not_mem.2
    intro x hx
    obtain ⟨q, hq, hxq, hno⟩ := mem_missL.1 hx
    rw [PL_trim hF] at hq
    obtain ⟨hq1, hq2⟩ := List.mem_filter.1 hq
    have hqV : q.1 ∈ V := has_iff.1 hq2
    have hget : getD (PL l) q.1 = q.2 := by
      unfold getD
      rw [get_nodup (by rw [PL_keys hF.callsL]; exact hF.nodup) (show (q.1, q.2) ∈ PL l from hq1)]; rfl
    have hx2 : x ∈ (getD (PL l) q.1).2 := by rw [hget]; exact hxq
    rw [isIn_trim hF, has_iff.2 (hcl _ hqV x hx2), open_in ho hx2] at hno
    cases hno
  have hopen : openE (trimL V l) = 0 := by
    unfold openE missS
    have hs : setS ([] : List ByteArray) = [] := List.eq_nil_iff_forall_not_mem.2 fun x hx => by
      have := mem_setS.1 hx
      simp at this
    rw [if_pos hv, hmiss, hs]
    rfl
  have hfrom : fromE (trimL V l) name = 0 := by
    unfold fromE
    rw [if_pos hopen, isIn_trim hF, has_iff.2 hname, hin]
    rfl
  refine ⟨hfrom, fun y => ⟨fun hy => ?_, fun hy => ?_⟩, fun walk => ?_⟩
  · have key : y ∈ V := by
      induction hy with
      | self => exact hname
      | call _ hz ih => rw [getD_trim hF ih] at hz; exact hcl _ ih _ hz
    exact (hV y).1 key
  · induction hy with
    | self => exact .self
    | call hy hz ih => exact .call ih (by rw [getD_trim hF ((hV _).2 hy)]; exact hz)
  · have walks : ∀ (walk : List ByteArray) (stk : List ByteArray) (r : Int × Int), (∀ x ∈ stk, x ∈ V) → walkS (PL (trimL V l)) stk r walk = walkS (PL l) stk r walk := by
      intro walk
      induction walk with
      | nil => intro stk r _; cases stk <;> rfl
      | cons s ws ih =>
        intro stk r hs
        cases stk with
        | nil => rfl
        | cons top rest =>
          have htop := hs top List.mem_cons_self
          rw [walkS_cons, walkS_cons, getD_trim hF htop]
          split
          · cases rest with
            | nil => rfl
            | cons t2 r2 =>
              simp only
              rw [getD_trim hF (hs t2 (by simp))]
              exact ih _ _ fun x hx => hs x (List.mem_cons_of_mem _ hx)
          · by_cases hc : has (getD (PL l) top).2 s = true
            · rw [if_pos hc, if_pos hc]
              have hsV := hcl top htop s (has_iff.1 hc)
              rw [getD_trim hF hsV]
              exact ih _ _ fun x hx => by
                rcases List.mem_cons.1 hx with rfl | hx
                · exact hsV
                · exact hs x hx
            · rw [if_neg hc, if_neg hc]
    unfold loadsS
    rw [hfrom, h, getD_trim hF hname, walks walk [name] _ (fun x hx => by simp at hx; subst hx; exact hname)]
theorem trim_twice (V : List ByteArray) (l : List Mod) : trimL V (trimL V l) = trimL V l := by
  have h1 : ∀ m' ∈ trimL V l, modOf m' (keepR V (rpOf m')) = m' := fun m' hm' => by
    obtain ⟨m, _, rfl, _⟩ := trim_mem hm'
    rw [rp_keep]
    have : keepR V (keepR V (rpOf m)) = keepR V (rpOf m) := by unfold keepR; simp [List.filter_filter]
    rw [this]
    rfl
  rw [trimL, List.map_congr_left h1, List.map_id']
  exact List.filter_eq_self.2 fun m' hm' => by
    obtain ⟨m, _, rfl, h⟩ := trim_mem hm'
    simpa [modOf] using h
theorem lim_trim {V : List ByteArray} {l : List Mod} (h : Lim.ok l) : Lim.ok (trimL V l) := fun m' hm' => by
  obtain ⟨m, hm, rfl, _⟩ := trim_mem hm'
  obtain ⟨h1, h2, h3, h4⟩ := h m hm
  refine ⟨h1, fun x hx => ?_, fun x hx => ?_, fun x hx => ?_⟩
  · obtain ⟨r, hr, rfl⟩ := List.mem_map.1 (show x ∈ (keepR V (rpOf m)).map (·.name) from hx)
    exact h2 _ (rp_mem (keepR_mem hr).1).2.1
  · obtain ⟨r, hr, rfl⟩ := List.mem_map.1 (show x ∈ (keepR V (rpOf m)).map (·.size) from hx)
    exact h3 _ (rp_mem (keepR_mem hr).1).2.2.1
  · obtain ⟨r, hr, rfl⟩ := List.mem_map.1 (show x ∈ (keepR V (rpOf m)).map (·.calls) from hx)
    exact h4 _ (rp_mem (keepR_mem hr).1).2.2.2

theorem trims_k (w : World) (s : SV) (l : List Mod) (hl : RdSl w s l) (hL : Lim.ok l) (name : ByteArray) (hn : Lim.ok name) (sw : SV) (walk : List ByteArray) (hw : RdSl w sw walk) (_ : Lim.ok walk) :
    Calls Try.prog 11 #[.slice s.a s.len s.cap, .string name, .slice sw.a sw.len sw.cap] w fun e w' => e = .returned (.bool true) ∧ Pu w w' := by
  refine F11_calls s name sw w _ ?_
  have kn : ∀ w1, Pu w w1 → Calls Try.prog 16 #[] w1 fun e w2 => ∃ b99 : Bool, e = .returned (.bool b99) ∧ runD Try.prog [] w2 fun w3 => (Ending.returned (.bool b99) = .returned (.bool true) ∧ Pu w w3) := fun w1 hp => by
    refine Calls.mono (known_c w1) ?_
    rintro e w2 ⟨rfl, hp2⟩
    exact ⟨true, rfl, rfl, hp.trans hp2⟩
  refine Calls.mono (over_c w s l hl) ?_
  rintro e w1 ⟨b, rfl, hp1, hov⟩
  refine ⟨b, rfl, Br.of (fun _ => kn w1 hp1) (fun h1 => ?_)⟩
  refine Br.of (fun _ => kn w1 hp1) (fun _ => ?_)
  refine Calls.mono (heavy_c w1 sw walk (hw.pu hp1)) ?_
  rintro e w1' ⟨⟨n26, rfl⟩, rfl⟩
  refine ⟨n26, rfl, Br.of (fun _ => kn w1' hp1) (fun _ => ?_)⟩
  refine Calls.mono (trim_c w1' s l (hl.pu hp1) hL name) ?_
  rintro e w2 ⟨t7, T, rfl, hT, hp2, _, hy⟩
  refine ⟨t7, _, rfl, Br.of (fun _ => kn w2 (hp1.trans hp2)) (fun h2 => ?_)⟩
  have h2 : fromE l name = 0 := by simpa using h2
  obtain ⟨V, hV, rfl⟩ := hy h2
  obtain ⟨g1, g2, g3⟩ := left_law h2 hV
  have hLT : Lim.ok (trimL V l) := lim_trim hL
  have P2 := hp1.trans hp2
  refine Calls.mono (reaches_c w2 s l (hl.pu P2) hL name) ?_
  rintro e w3 ⟨t44, R1, rfl, hr1, hp3, _, y1⟩
  refine ⟨t44, _, rfl, ?_⟩
  have P3 := P2.trans hp3
  refine Calls.mono (reaches_c w3 t7 (trimL V l) (hT.pu hp3) hLT name) ?_
  rintro e w4 ⟨t50, R2, rfl, hr2, hp4, _, y2⟩
  refine ⟨t50, _, rfl, ?_⟩
  have P4 := P3.trans hp4
  refine Calls.mono (loads_c w4 s l (hl.pu P4) hL name sw walk (hw.pu P4)) ?_
  rintro e w5 ⟨rfl, hp5⟩
  refine ⟨_, _, rfl, ?_⟩
  have P5 := P4.trans hp5
  refine Calls.mono (loads_c w5 t7 (trimL V l) (hT.pu ((hp3.trans hp4).trans hp5)) hLT name sw walk (hw.pu P5)) ?_
  rintro e w6 ⟨rfl, hp6⟩
  refine ⟨_, _, rfl, ?_⟩
  have P6 := P5.trans hp6
  have Q6 := ((hp3.trans hp4).trans hp5).trans hp6
  refine Calls.mono (trim_c w6 t7 (trimL V l) (hT.pu Q6) hLT name) ?_
  rintro e w7 ⟨t70, T2, rfl, hT2, hp7, _, y3⟩
  refine ⟨t70, _, rfl, ?_⟩
  have P7 := P6.trans hp7
  obtain ⟨V2, hV2, rfl⟩ := y3 g1
  have hTT : trimL V2 (trimL V l) = trimL V l := by
    rw [trimL_ext (V' := V) (fun y => (hV2 y).trans ((g2 y).trans (hV y).symm)), trim_twice]
  rw [hTT] at hT2
  have hRR : R1 = R2 := asc_ext (y1 h2).asc (y2 g1).asc fun y => ((y1 h2).mem y).trans ((g2 y).symm.trans ((y2 g1).mem y).symm)
  subst hRR
  refine Calls.mono (sameTexts_c w7 t44 t50 R1 (hr1.pu (((hp4.trans hp5).trans hp6).trans hp7)) (hr2.pu ((hp5.trans hp6).trans hp7))) ?_
  rintro e w8 ⟨rfl, hp8⟩
  refine ⟨true, rfl, Br.t rfl (Br.t (by simp [g1]) ?_)⟩
  rw [g3 walk]
  refine Br.t (by simp) (Br.t (by simp) ?_)
  refine Calls.mono (same_c w8 t70 t7 _ _ (hT2.pu hp8) (hT.pu ((Q6.trans hp7).trans hp8))) ?_
  rintro e w9 ⟨rfl, hp9⟩
  exact ⟨_, rfl, Br.t (by simp) (Br.t (by simp [g1]) (kn w9 ((P7.trans hp8).trans hp9)))⟩
end Go.Proofs.Ytcnenlmhbpijlaa
