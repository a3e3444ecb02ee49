/- Link: the law LinkApart, walked: places lie in their root or overlay, and do not overlap. No condition but the reach's. -/
import Derived.Test.YtcnenlmhbpijlaaLkV2
import Derived.Test.YtcnenlmhbpijlaaLkFapart
set_option maxRecDepth 100000
set_option linter.unusedVariables false
set_option linter.unusedSimpArgs false
namespace Go.Proofs.Ytcnenlmhbpijlaa
open Go.Sh Go.RowKit

/-! ### The plain law -/
theorem placesS_at {root : Int} : ∀ {R : List RP} {k : Nat} {r : RP}, R[k]? = some r → (placesS root R)[k]? = some (baseOf root r.ov + szI (R.take k) r.ov) := by
  have key : ∀ (A done : List RP) (k : Nat) (r : RP), A[k]? = some r → (placesFrom root done A)[k]? = some (baseOf root r.ov + szI (done ++ A.take k) r.ov) := by
    intro A
    induction A with
    | nil => intro done k r h; simp at h
    | cons x A ih =>
      intro done k r h
      cases k with
      | zero => simp at h; subst h; simp [placesFrom]
      | succ k =>
        simp only [List.getElem?_cons_succ] at h
        have := ih (done ++ [x]) k r h
        simp only [placesFrom, List.getElem?_cons_succ, List.take_succ_cons, this]
        simp
  intro R k r h
  have := key R [] k r h
  simpa [placesS] using this
theorem szI_mono {R : List RP} (hb : ∀ r ∈ R, 1 ≤ r.size ∧ r.size ≤ 10000) (o : Int) {i j : Nat} (h : i ≤ j) : szI (R.take i) o ≤ szI (R.take j) o := by
  have e : R.take j = R.take i ++ (R.take j).drop i := by
    have h1 := (List.take_append_drop i (R.take j)).symm
    rw [List.take_take, Nat.min_eq_left h] at h1
    exact h1
  have h2 : szI (R.take j) o = szI (R.take i) o + szI ((R.take j).drop i) o := by
    rw [e]; simp only [szI, List.map_append, List.sum_append]
    rw [← e]
  have h3 := (szI_bounds (R := (R.take j).drop i) (fun r hr => hb r (List.mem_of_mem_take (List.mem_of_mem_drop hr))) o).1
  omega
theorem le_maxOf {x : Int} : ∀ {l : List Int}, x ∈ l → x ≤ Lib.maxOf l := by
  have key : ∀ (l : List Int) (a : Int), a ≤ l.foldl max a ∧ ∀ x ∈ l, x ≤ l.foldl max a := by
    intro l
    induction l with
    | nil => intro a; simp
    | cons y l ih =>
      intro a
      obtain ⟨h1, h2⟩ := ih (max a y)
      simp only [List.foldl_cons, List.mem_cons]
      refine ⟨by omega, ?_⟩
      rintro x (rfl | hx)
      · omega
      · exact h2 x hx
  intro l hx
  cases l with
  | nil => simp at hx
  | cons y l =>
    have := (key (y :: l) y).2 x hx
    simpa [Lib.maxOf] using this
theorem room_ge {l : List Mod} {v : Nat} (h1 : 1 ≤ v) (h2 : v ≤ 15) : szOf l v ≤ roomS l := le_maxOf (List.mem_map.2 ⟨v - 1, by simp; omega, by rw [Nat.sub_add_cancel h1]⟩)

/-- The place of r in its row. -/
def plOf (root : Int) (R : List RP) (k : Nat) (r : RP) : Int := baseOf root r.ov + szI (R.take k) r.ov
theorem pl_bounds {l : List Mod} (hF : Fits l) {k : Nat} {r : RP} (h : (RL l)[k]? = some r) : 0 ≤ plOf (szOf l 0) (RL l) k r ∧ (r.ov = 0 → plOf (szOf l 0) (RL l) k r + r.size ≤ szOf l 0) ∧ (r.ov ≠ 0 → szOf l 0 ≤ plOf (szOf l 0) (RL l) k r ∧ plOf (szOf l 0) (RL l) k r + r.size ≤ szOf l 0 + roomS l) := by
  have hb : ∀ x ∈ RL l, 1 ≤ x.size ∧ x.size ≤ 10000 := fun x hx => (RL_mem hF hx).2
  obtain ⟨hov, hs⟩ := RL_mem hF (List.mem_of_getElem? h)
  have hroot := szOf_bounds (l := l) (fun m hm => ⟨hF.right m hm, hF.sizes m hm⟩) 0
  obtain ⟨v, hv⟩ : ∃ v : Nat, r.ov = (v : Int) := ⟨r.ov.toNat, by omega⟩
  have h1 := szI_take h r.ov
  rw [if_pos rfl] at h1
  have h2 := szI_mono hb r.ov (i := k + 1) (j := (RL l).length) (by have := (List.getElem?_eq_some_iff.1 h).1; omega)
  rw [List.take_length] at h2
  have h3 : szI (RL l) r.ov = szOf l v := by rw [hv, ← szR_szI, szR_all (fun m hm => ⟨hF.sizes m hm, hF.callsL m hm⟩)]
  have h4 := (szI_bounds (R := (RL l).take k) (fun x hx => hb x (List.mem_of_mem_take hx)) r.ov).1
  unfold plOf baseOf
  refine ⟨by split <;> omega, fun h0 => ?_, fun h0 => ?_⟩
  · rw [if_pos h0]
    have : v = 0 := by omega
    subst this
    omega
  · rw [if_neg h0]
    have h5 := room_ge (l := l) (v := v) (by omega) (by omega)
    omega
theorem pl_order {l : List Mod} (hF : Fits l) {i j : Nat} {a b : RP} (ha : (RL l)[i]? = some a) (hb : (RL l)[j]? = some b) (hij : j < i) (ho : a.ov = b.ov) : plOf (szOf l 0) (RL l) j b + b.size ≤ plOf (szOf l 0) (RL l) i a := by
  have hbb : ∀ x ∈ RL l, 1 ≤ x.size ∧ x.size ≤ 10000 := fun x hx => (RL_mem hF hx).2
  have h1 := szI_take hb b.ov
  rw [if_pos rfl] at h1
  have h2 := szI_mono hbb b.ov (i := j + 1) (j := i) hij
  unfold plOf
  rw [ho]
  omega
theorem roomS_bounds {l : List Mod} (hF : Fits l) : 0 ≤ roomS l ∧ roomS l ≤ 1000000 := by
  have hb := fun i => szOf_bounds (l := l) (fun m hm => ⟨hF.right m hm, hF.sizes m hm⟩) i
  have hp := hF.procs
  have h1 := room_ge (l := l) (v := 1) (by omega) (by omega)
  refine ⟨by have := (hb 1).1; omega, ?_⟩
  have key : ∀ (L : List Int) (a : Int), a ≤ 1000000 → (∀ x ∈ L, x ≤ 1000000) → L.foldl max a ≤ 1000000 := by
    intro L
    induction L with
    | nil => intro a h _; exact h
    | cons y L ih => intro a h hL; exact ih _ (by have := hL y List.mem_cons_self; omega) fun x hx => hL x (List.mem_cons_of_mem _ hx)
  unfold roomS Lib.maxOf
  have hall : ∀ x ∈ (List.range 15).map fun i => szOf l (i + 1), x ≤ 1000000 := fun x hx => by
    obtain ⟨i, _, rfl⟩ := List.mem_map.1 hx
    have := (hb (i + 1)).2
    omega
  exact key _ _ (by
    show szOf l 1 ≤ _
    have := (hb 1).2
    omega) hall

/-! ### The walk -/
set_option maxHeartbeats 4000000 in
theorem apart_k (w : World) (s : SV) (l : List Mod) (hl : RdSl w s l) (hL : Lim.ok l) : Calls Try.prog 6 #[.slice s.a s.len s.cap] w fun e w' => e = .returned (.bool true) ∧ Pu w w' := by
  refine F6_calls s w _ ?_
  have kn : ∀ w1 : World, Pu w w1 → F6_1 (fun e w' => e = .returned (.bool true) ∧ Pu w w') [] w1 := fun w1 hp => by
    refine Calls.mono (known_c w1) ?_
    rintro e w2 ⟨rfl, hp2⟩
    exact ⟨true, rfl, rfl, hp.trans hp2⟩
  refine Calls.mono (over_c w s l hl) ?_
  rintro e w1 ⟨b, rfl, hp1, hov⟩
  refine ⟨b, rfl, Br.of (fun _ => kn w1 hp1) (fun _ => ?_)⟩
  refine Calls.mono (link_c w1 s l (hl.pu hp1) hL) ?_
  rintro e w2 ⟨t1, t2, rfl, hr1, hr2, hp2⟩
  refine ⟨t1, t2, _, rfl, ?_⟩
  have P2 := hp1.trans hp2
  refine Br.of (fun _ => kn w2 P2) (fun h1 => ?_)
  have h1 : openE l = 0 := by
    have h : (linkS l).2.2 = 0 := by simpa using h1
    unfold linkS at h
    split at h
    · assumption
    · exact h
  have hv := open_valid h1
  have hF := fits_of hv
  have hR100 : (RL l).length ≤ 100 := by rw [RL_len hF]; exact hF.procs
  rw [linkS, if_pos h1] at hr1 hr2
  have hr1 : RdSl w2 t1 ((RL l).map (·.name)) := hr1
  have hr2 : RdSl w2 t2 (placesS (szOf l 0) (RL l)) := hr2
  refine Calls.mono (sizes_c w2 s l (hl.pu P2) hL) ?_
  rintro e w3 ⟨rfl, hp3⟩
  rw [sizesS, if_pos hv]
  refine ⟨szOf l 0, roomS l, _, rfl, ?_⟩
  have P3 := P2.trans hp3
  have hlen := hl.len
  have hl32 := hF.len
  have hb : ∀ r ∈ RL l, (0 ≤ r.ov ∧ r.ov ≤ 15) ∧ 1 ≤ r.size ∧ r.size ≤ 10000 := fun r hr => RL_mem hF hr
  refine loopUp l.length (fun k t w' => Pu w3 w' ∧ t.2.2 = (k : Int) ∧ RowAt w' 3 1 t.1 (intV ((RL (l.take k)).map (·.size))) ∧ RowAt w' 3 1 t.2.1 (intV ((RL (l.take k)).map (·.ov))) ∧
      (∀ i ∈ blkOf t.1, w3.heap.size ≤ i) ∧ (∀ i ∈ blkOf t.2.1, w3.heap.size ≤ i) ∧ (∀ i ∈ blkOf t.1, i ∉ blkOf t.2.1))
    ⟨Pu.refl w3, rfl, RowAt.nil _ _ _, RowAt.nil _ _ _, by simp [blkOf], by simp [blkOf], by simp [blkOf]⟩ ?_
  rintro k J ⟨l9, l10, t⟩ w4 hk ⟨hp4, ht, hrA, hrB, hfA, hfB, hd⟩ hJ
  obtain rfl : t = (k : Int) := ht
  have hrA : RowAt w4 3 1 l9 (intV ((RL (l.take k)).map (·.size))) := hrA
  have hrB : RowAt w4 3 1 l10 (intV ((RL (l.take k)).map (·.ov))) := hrB
  have hfA : ∀ i ∈ blkOf l9, w3.heap.size ≤ i := hfA
  have hfB : ∀ i ∈ blkOf l10, w3.heap.size ≤ i := hfB
  have hd : ∀ i ∈ blkOf l9, i ∉ blkOf l10 := hd
  dsimp only
  refine Br.of (fun hlt => ?_) (fun hge => ?_)
  · have hlt' : k < l.length := by have := dtrue hlt; omega
    obtain ⟨m, hm⟩ := at_k hlt'
    have hmem := List.mem_of_getElem? hm
    obtain ⟨a, p, z, c, ha, hi, hM, c0, c1, c2, c3, c4⟩ := modAt hl hm
    have hpl := hM.procs.len
    have hzl := hM.sizes.len
    have hsz := hF.sizes m hmem
    have hca := hF.callsL m hmem
    have hRk : RL (l.take (k + 1)) = RL (l.take k) ++ rpOf m := RL_take hm
    have hRtot : (RL (l.take k)).length + m.procs.length ≤ 100 := by
      have e1 := congrArg List.length hRk
      have e2 : (RL (l.take (k + 1))).length ≤ (RL l).length := by
        have e3 : RL l = RL (l.take (k + 1)) ++ RL (l.drop (k + 1)) := by
          unfold RL; rw [← List.flatMap_append, List.take_append_drop]
        rw [e3, List.length_append]; omega
      rw [List.length_append, rpOf_len hsz hca] at e1
      omega
    refine loopUp m.procs.length (fun j t w' => Pu w3 w' ∧ t.2.2 = (j : Int) ∧
        RowAt w' 3 1 t.1 (intV ((RL (l.take k) ++ (rpOf m).take j).map (·.size))) ∧ RowAt w' 3 1 t.2.1 (intV ((RL (l.take k) ++ (rpOf m).take j).map (·.ov))) ∧
        (∀ i ∈ blkOf t.1, w3.heap.size ≤ i) ∧ (∀ i ∈ blkOf t.2.1, w3.heap.size ≤ i) ∧ (∀ i ∈ blkOf t.1, i ∉ blkOf t.2.1))
      ⟨hp4, rfl, by simpa using hrA, by simpa using hrB, hfA, hfB, hd⟩ ?_
    rintro j J2 ⟨l9', l10', t⟩ w5 hj ⟨hp5, ht, hrA, hrB, hfA, hfB, hdd⟩ hJ2
    obtain rfl : t = (j : Int) := ht
    generalize hdone : RL (l.take k) ++ (rpOf m).take j = done at hrA hrB
    have hrA : RowAt w5 3 1 l9' (intV (done.map (·.size))) := hrA
    have hrB : RowAt w5 3 1 l10' (intV (done.map (·.ov))) := hrB
    have hfA : ∀ i ∈ blkOf l9', w3.heap.size ≤ i := hfA
    have hfB : ∀ i ∈ blkOf l10', w3.heap.size ≤ i := hfB
    have hdd : ∀ i ∈ blkOf l9', i ∉ blkOf l10' := hdd
    dsimp only
    have hdl : done.length = (RL (l.take k)).length + j := by
      rw [← hdone, List.length_append, List.length_take, rpOf_len hsz hca, Nat.min_eq_left hj]
    have P5 := P3.trans hp5
    refine ⟨a, ha, by omega, by omega, p, by simpa using P5.cell c2, Br.of (fun hlt2 => ?_) (fun hge2 => ?_)⟩
    · have hlt2' : j < m.procs.length := by have := dtrue hlt2; omega
      obtain ⟨x, hx⟩ := at_k hlt2'
      obtain ⟨y, hy⟩ := at_k (l := m.sizes) (k := j) (by omega)
      obtain ⟨cs, hcs⟩ := at_k (l := m.calls) (k := j) (by omega)
      obtain ⟨a3, ha3, hi3, hc3, _⟩ := hM.sizes.int hy
      have hrp := rpOf_at hx hy hcs
      have hdone' : RL (l.take k) ++ (rpOf m).take (j + 1) = done ++ [⟨x, m.ov, y, cs⟩] := by rw [take_at hrp, ← List.append_assoc, hdone]
      have hlA : l9'.len = done.length := by have := hrA.1; simp at this; omega
      have hlB : l10'.len = done.length := by have := hrB.1; simp at this; omega
      refine dwE_intro fun w6 hp6 hh6 => ?_
      have P6 := P5.trans hp6
      let S1 : World → Prop := fun u => Pu w3 u
      have hltA := hrA.lt
      have hltB := hrB.lt
      have hs56 := hp6.size
      have hs35 := hp5.size
      refine ⟨S1, hp5.trans hp6, a, ha, by omega, by omega, z, fun u hu => by simpa using (P3.trans hu).cell c3, a3, ha3, by omega, by omega, y, fun u hu => by simpa using (P3.trans hu).cell hc3, a, ha, by omega, by omega, m.ov, fun u hu => by simpa using (P3.trans hu).cell c1, ?_⟩
      have app1 : ∀ (u : World) (rs : Nat), Pu w3 u → RowAt u 3 1 l9' (intV (done.map (·.size))) → RowAt u 3 1 l10' (intV (done.map (·.ov))) → w5.heap.size ≤ u.heap.size → u.heap[rs]? = some (.cells #[.int .i64 y] 3) →
          ∃ (l61 : SV) (u' : World), (Builtin.append_ #[30, 30] 30 #[.slice l9'.a l9'.len l9'.cap, .slice (some ⟨rs, 0, none⟩) 1 1]).run Try.prog u = .ok (.slice l61.a l61.len l61.cap) u' ∧ Pu w3 u' ∧ RowAt u' 3 1 l61 (intV (done.map (·.size)) ++ [.int .i64 y]) ∧ RowAt u' 3 1 l10' (intV (done.map (·.ov))) ∧
            (∀ i ∈ blkOf l61, w3.heap.size ≤ i) ∧ (∀ i ∈ blkOf l61, i ∉ blkOf l10') ∧ w5.heap.size ≤ u'.heap.size ∧ (∀ ri o, w5.heap.size ≤ ri → u.heap[ri]? = some o → u'.heap[ri]? = some o) := fun u rs hpu hA hB hle hc => by
        obtain ⟨l61, u', hra, hrow, hf, hblk, hlen'⟩ := row_push (P := Try.prog) (ty := 30) (t := 30) u30 info3 rfl (s := l9') hA (a := ⟨rs, 0, none⟩) (u := .int .i64 y) (by rw [cell_blk hc]; rfl) rfl (by omega)
        refine ⟨l61, u', hra, Pu.andNew hpu hf hfA, hrow, hB.fr hf fun i hi h => hdd i h hi, fun i hi => ?_, fun i hi h => ?_, by have := hf.size; omega, fun ri o hri ho => hf.blk ho fun h => by have := hltA ri h; omega⟩
        · rcases hblk i hi with h | h
          · exact hfA i h
          · omega
        · rcases hblk i hi with h' | h'
          · exact hdd i h' h
          · have := hltB i h; omega
      have app2 : ∀ (u : World) (l61 : SV) (ri : Nat), Pu w3 u → RowAt u 3 1 l61 (intV (done.map (·.size)) ++ [.int .i64 y]) → RowAt u 3 1 l10' (intV (done.map (·.ov))) → (∀ i ∈ blkOf l61, w3.heap.size ≤ i) → (∀ i ∈ blkOf l61, i ∉ blkOf l10') → u.heap[ri]? = some (.cells #[.int .i64 m.ov] 3) →
          ∃ (l69 : SV) (u' : World), (Builtin.append_ #[30, 30] 30 #[.slice l10'.a l10'.len l10'.cap, .slice (some ⟨ri, 0, none⟩) 1 1]).run Try.prog u = .ok (.slice l69.a l69.len l69.cap) u' ∧ J2 (l61, l69, (IntKind.i64.wrap ((j : Int) + 1))) u' := fun u l61 ri hpu hA hB hfa hda hc => by
        have hlt61 := hA.lt
        obtain ⟨l69, u', hra, hrow, hf, hblk, hlen'⟩ := row_push (P := Try.prog) (ty := 30) (t := 30) u30 info3 rfl (s := l10') hB (a := ⟨ri, 0, none⟩) (u := .int .i64 m.ov) (by rw [cell_blk hc]; rfl) rfl (by omega)
        refine ⟨l69, u', hra, ?_⟩
        rw [wrap_in (n := (j : Int) + 1) (by omega) (by omega)]
        have hsu := hpu.size
        refine hJ2 _ _ hlt2' ⟨Pu.andNew hpu hf hfB, rfl, ?_, ?_, hfa, fun i hi => ?_, fun i hi h => ?_⟩
        · show RowAt u' 3 1 l61 _
          rw [hdone', List.map_append]
          have := hA.fr hf fun i hi h => hda i hi h
          simpa [intV] using this
        · show RowAt u' 3 1 l69 _
          rw [hdone', List.map_append]
          simpa [intV] using hrow
        · rcases hblk i hi with h | h
          · exact hfB i h
          · omega
        · rcases hblk i h with h' | h'
          · exact hda i hi h'
          · have := hlt61 i hi; omega
      have P36 := hp5.trans hp6
      refine ⟨?_, ?_⟩
      · refine alE_intro fun w7 hw7 => ?_
        have hp7 : Pu w6 w7 := by rw [hw7]; exact Pu.alloc w6 _
        have hn7 : w7.heap[w6.heap.size]? = some (.cells #[.int .i64 y] 3) := by rw [hw7]; exact alloc_new w6 _
        have hs7 := hp7.size
        refine ⟨P36.trans hp7, ?_, ?_⟩
        · obtain ⟨l61, w8, hra, q1, q2, q3, q4, q5, q6, q7⟩ := app1 w7 w6.heap.size (P36.trans hp7) ((hrA.pu hp6).pu hp7) ((hrB.pu hp6).pu hp7) (by omega) hn7
          refine ⟨l61, w8, hra, q1, ?_⟩
          refine alE_intro fun w9 hw9 => ?_
          have hp9 : Pu w8 w9 := by rw [hw9]; exact Pu.alloc w8 _
          have hn9 : w9.heap[w8.heap.size]? = some (.cells #[.int .i64 m.ov] 3) := by rw [hw9]; exact alloc_new w8 _
          exact ⟨q1.trans hp9, app2 w9 l61 w8.heap.size (q1.trans hp9) (q2.pu hp9) (q3.pu hp9) q4 q5 hn9⟩
        · refine alE_intro fun w8 hw8 => ?_
          have hp8 : Pu w7 w8 := by rw [hw8]; exact Pu.alloc w7 _
          have hn8 : w8.heap[w7.heap.size]? = some (.cells #[.int .i64 m.ov] 3) := by rw [hw8]; exact alloc_new w7 _
          have hs8 := hp8.size
          refine ⟨(P36.trans hp7).trans hp8, ?_⟩
          obtain ⟨l61, w9, hra, q1, q2, q3, q4, q5, q6, q7⟩ := app1 w8 w6.heap.size ((P36.trans hp7).trans hp8) (((hrA.pu hp6).pu hp7).pu hp8) (((hrB.pu hp6).pu hp7).pu hp8) (by omega) (hp8.blk hn7)
          exact ⟨l61, w9, hra, q1, app2 w9 l61 w7.heap.size q1 q2 q3 q4 q5 (q7 _ _ (by omega) hn8)⟩
      · refine alE_intro fun w7 hw7 => ?_
        have hp7 : Pu w6 w7 := by rw [hw7]; exact Pu.alloc w6 _
        have hn7 : w7.heap[w6.heap.size]? = some (.cells #[.int .i64 m.ov] 3) := by rw [hw7]; exact alloc_new w6 _
        have hs7 := hp7.size
        refine ⟨P36.trans hp7, ?_⟩
        refine alE_intro fun w8 hw8 => ?_
        have hp8 : Pu w7 w8 := by rw [hw8]; exact Pu.alloc w7 _
        have hn8 : w8.heap[w7.heap.size]? = some (.cells #[.int .i64 y] 3) := by rw [hw8]; exact alloc_new w7 _
        have hs8 := hp8.size
        refine ⟨(P36.trans hp7).trans hp8, ?_⟩
        obtain ⟨l61, w9, hra, q1, q2, q3, q4, q5, q6, q7⟩ := app1 w8 w7.heap.size ((P36.trans hp7).trans hp8) (((hrA.pu hp6).pu hp7).pu hp8) (((hrB.pu hp6).pu hp7).pu hp8) (by omega) hn8
        exact ⟨l61, w9, hra, q1, app2 w9 l61 w6.heap.size q1 q2 q3 q4 q5 (q7 _ _ (by omega) (hp8.blk hn7))⟩
    · have hge2' : ¬ j < m.procs.length := by have := dfalse hge2; omega
      show J _ _
      have hfull : (rpOf m).take j = rpOf m := List.take_of_length_le (by rw [rpOf_len hsz hca]; omega)
      rw [hfull, ← hRk] at hdone
      subst hdone
      rw [wrap_in (n := (k : Int) + 1) (by omega) (by omega)]
      exact hJ _ _ hlt' ⟨hp5, rfl, hrA, hrB, hfA, hfB, hdd⟩
  · have hge' : ¬ k < l.length := by have := dfalse hge; omega
    rw [take_end hk hge'] at hrA hrB
    have hlA : l9.len = (RL l).length := by have := hrA.1; simp at this; omega
    have hlB : l10.len = (RL l).length := by have := hrB.1; simp at this; omega
    have hn1 := hr1.len
    have hn2 := hr2.len
    rw [List.length_map] at hn1
    rw [placesS_len] at hn2
    have P4 := P3.trans hp4
    have hA : RdSl w4 l9 ((RL l).map (·.size)) := rd_of_ints hrA (fun x hx => by
      obtain ⟨r, hr, rfl⟩ := List.mem_map.1 hx
      have := (hb r hr).2
      omega) (by rw [List.length_map]; omega)
    have hB : RdSl w4 l10 ((RL l).map (·.ov)) := rd_of_ints hrB (fun x hx => by
      obtain ⟨r, hr, rfl⟩ := List.mem_map.1 hx
      have := (hb r hr).1
      omega) (by rw [List.length_map]; omega)
    have hC : RdSl w4 t2 (placesS (szOf l 0) (RL l)) := hr2.pu (hp3.trans hp4)
    have hroot := szOf_bounds (l := l) (fun m hm => ⟨hF.right m hm, hF.sizes m hm⟩) 0
    have hn100 := hF.procs
    have hrb := roomS_bounds hF
    have fA : ∀ {u : World}, Pu w4 u → ∀ {k : Nat} {r : RP}, (RL l)[k]? = some r → ∃ a, l9.a = some a ∧ k < l9.len ∧ u.cell? (a.add (k * 1)) = some (.int .i64 r.size) := fun {u} hu {k r} h => by
      obtain ⟨a, ha, hi, hc, _⟩ := (hA.pu hu).int (i := k) (x := r.size) (by rw [List.getElem?_map, h]; rfl)
      exact ⟨a, ha, by omega, by simpa using hc⟩
    have fB : ∀ {u : World}, Pu w4 u → ∀ {k : Nat} {r : RP}, (RL l)[k]? = some r → ∃ a, l10.a = some a ∧ k < l10.len ∧ u.cell? (a.add (k * 1)) = some (.int .i64 r.ov) := fun {u} hu {k r} h => by
      obtain ⟨a, ha, hi, hc, _⟩ := (hB.pu hu).int (i := k) (x := r.ov) (by rw [List.getElem?_map, h]; rfl)
      exact ⟨a, ha, by omega, by simpa using hc⟩
    have fC : ∀ {u : World}, Pu w4 u → ∀ {k : Nat} {r : RP}, (RL l)[k]? = some r → ∃ a, t2.a = some a ∧ k < t2.len ∧ u.cell? (a.add (k * 1)) = some (.int .i64 (plOf (szOf l 0) (RL l) k r)) := fun {u} hu {k r} h => by
      obtain ⟨a, ha, hi, hc, _⟩ := (hC.pu hu).int (i := k) (x := plOf (szOf l 0) (RL l) k r) (placesS_at h)
      exact ⟨a, ha, by omega, by simpa using hc⟩
    refine Br.f (by simp; omega) (Br.f (by simp; omega) ?_)
    clear hJ hge
    refine loopUp (RL l).length (fun i t w' => Pu w4 w' ∧ t = (i : Int)) ⟨Pu.refl w4, rfl⟩ ?_
    rintro i J t w5 hi ⟨hp5, rfl⟩ hJ
    refine Br.of (fun hlt => ?_) (fun hge => kn w5 (P4.trans hp5))
    have hlt' : i < (RL l).length := by have := dtrue hlt; omega
    obtain ⟨r, hr⟩ := at_k hlt'
    obtain ⟨hov, hrs⟩ := hb r (List.mem_of_getElem? hr)
    obtain ⟨b1, b2, b3⟩ := pl_bounds hF hr
    -- the pairs
    have pairs : ∀ u : World, Pu w4 u → F6_7 (fun e w' => e = .returned (.bool true) ∧ Pu w w') J t2 (szOf l 0) (roomS l) l9 l10 (i : Int) 0 [] u := fun u hu => by
      refine loopUp i (fun j t w' => Pu w4 w' ∧ t = (j : Int)) ⟨hu, rfl⟩ ?_
      rintro j J2 t w6 hj ⟨hp6, rfl⟩ hJ2
      refine Br.of (fun hlt2 => ?_) (fun hge2 => ?_)
      · have hlt2' : j < i := by have := dtrue hlt2; omega
        obtain ⟨q, hq⟩ := at_k (l := RL l) (k := j) (by omega)
        obtain ⟨hqo, hqs⟩ := hb q (List.mem_of_getElem? hq)
        obtain ⟨d1, d2, d3⟩ := pl_bounds hF hq
        have next : ∀ u : World, Pu w4 u → J2 (IntKind.i64.wrap ((j : Int) + 1)) u := fun u hu => by
          rw [wrap_in (n := (j : Int) + 1) (by omega) (by omega)]
          exact hJ2 _ _ hlt2' ⟨hu, rfl⟩
        -- the two do not overlap
        have apart : plOf (szOf l 0) (RL l) j q + q.size ≤ plOf (szOf l 0) (RL l) i r ∨ plOf (szOf l 0) (RL l) i r + r.size ≤ plOf (szOf l 0) (RL l) j q → ∀ u : World, Pu w4 u →
            ∃ a4 : Addr, t2.a = some a4 ∧ 0 ≤ (i : Int) ∧ (i : Int) < ((t2.len : Nat) : Int) ∧ ∃ n148 : Int, u.cell? (a4.add ((i : Int).toNat * 1)) = some (.int .i64 n148) ∧
            ∃ a5 : Addr, t2.a = some a5 ∧ 0 ≤ (j : Int) ∧ (j : Int) < ((t2.len : Nat) : Int) ∧ ∃ n152 : Int, u.cell? (a5.add ((j : Int).toNat * 1)) = some (.int .i64 n152) ∧
            ∃ a6 : Addr, l9.a = some a6 ∧ 0 ≤ (j : Int) ∧ (j : Int) < ((l9.len : Nat) : Int) ∧ ∃ n156 : Int, u.cell? (a6.add ((j : Int).toNat * 1)) = some (.int .i64 n156) ∧
            Br (decide (n148 < (IntKind.i64.wrap (n152 + n156)))) (
              ∃ a7 : Addr, t2.a = some a7 ∧ 0 ≤ (j : Int) ∧ (j : Int) < ((t2.len : Nat) : Int) ∧ ∃ n164 : Int, u.cell? (a7.add ((j : Int).toNat * 1)) = some (.int .i64 n164) ∧
              ∃ a8 : Addr, t2.a = some a8 ∧ 0 ≤ (i : Int) ∧ (i : Int) < ((t2.len : Nat) : Int) ∧ ∃ n168 : Int, u.cell? (a8.add ((i : Int).toNat * 1)) = some (.int .i64 n168) ∧
              ∃ a9 : Addr, l9.a = some a9 ∧ 0 ≤ (i : Int) ∧ (i : Int) < ((l9.len : Nat) : Int) ∧ ∃ n172 : Int, u.cell? (a9.add ((i : Int).toNat * 1)) = some (.int .i64 n172) ∧
              Br (decide (n164 < (IntKind.i64.wrap (n168 + n172)))) (runD Try.prog [] u fun w13 => (fun e w' => e = .returned (.bool true) ∧ Pu w w') (Ending.returned (.bool false)) w13) (J2 (IntKind.i64.wrap ((j : Int) + 1)) u)) (J2 (IntKind.i64.wrap ((j : Int) + 1)) u) := fun hap u hu => by
          obtain ⟨ai, hai, hii, hci⟩ := fC hu hr
          obtain ⟨aj, haj, hij, hcj⟩ := fC hu hq
          obtain ⟨si, hsi, hsii, hsci⟩ := fA hu hr
          obtain ⟨sj, hsj, hsij, hscj⟩ := fA hu hq
          refine ⟨ai, hai, by omega, by omega, _, hci, aj, haj, by omega, by omega, _, hcj, sj, hsj, by omega, by omega, _, hscj, Br.of (fun h => ?_) (fun _ => next u hu)⟩
          have h := dtrue h
          have hup : ∀ {k : Nat} {x : RP}, (RL l)[k]? = some x → plOf (szOf l 0) (RL l) k x + x.size ≤ 2000000 := fun {k x} hx => by
            obtain ⟨_, e2, e3⟩ := pl_bounds hF hx
            by_cases h0 : x.ov = 0
            · have := e2 h0; omega
            · have := (e3 h0).2; omega
          have u1 := hup hr
          have u2 := hup hq
          rw [wrap_in (by omega) (by omega)] at h
          refine ⟨aj, haj, by omega, by omega, _, hcj, ai, hai, by omega, by omega, _, hci, si, hsi, by omega, by omega, _, hsci, Br.f (decide_eq_false ?_) (next u hu)⟩
          rw [wrap_in (by omega) (by omega)]
          omega
        refine dwE_intro fun w7 hp7 hh7 => ?_
        have P47 := hp6.trans hp7
        obtain ⟨bi, hbi, hbii, hbci⟩ := fB P47 hr
        obtain ⟨bj, hbj, hbij, hbcj⟩ := fB P47 hq
        refine ⟨bi, hbi, by omega, by omega, _, hbci, bj, hbj, by omega, by omega, _, hbcj, Br.of (fun h => ?_) (fun h => ?_)⟩
        · have h : r.ov = q.ov := by simpa using h
          refine dwE_intro fun w8 hp8 hh8 => ?_
          exact apart (.inl (pl_order hF hr hq hlt2' h)) w8 (P47.trans hp8)
        · have h : r.ov ≠ q.ov := by simpa using h
          refine ⟨bi, hbi, by omega, by omega, _, hbci, Br.of (fun h0 => ?_) (fun h0 => ?_)⟩
          · have h0 : r.ov = 0 := by simpa using h0
            refine dwE_intro fun w8 hp8 hh8 => ?_
            exact apart (.inr (by have := b2 h0; have := (d3 (by omega)).1; omega)) w8 (P47.trans hp8)
          · refine ⟨bj, hbj, by omega, by omega, _, hbcj, ?_⟩
            refine dwE_intro fun w8 hp8 hh8 => ?_
            refine Br.of (fun h9 => ?_) (fun _ => next w8 (P47.trans hp8))
            have h0 : r.ov ≠ 0 := by simpa using h0
            have h9 : q.ov = 0 := by simpa using h9
            exact apart (.inl (by have := d2 h9; have := (b3 h0).1; omega)) w8 (P47.trans hp8)
      · show J _ _
        rw [wrap_in (n := (i : Int) + 1) (by omega) (by omega)]
        exact hJ _ _ hlt' ⟨hp6, rfl⟩
    obtain ⟨bi, hbi, hbii, hbci⟩ := fB hp5 hr
    refine ⟨bi, hbi, by omega, by omega, _, hbci, Br.of (fun h0 => ?_) (fun h0 => ?_)⟩
    · have h0 : r.ov = 0 := by simpa using h0
      have := b2 h0
      refine dwE_intro fun w6 hp6 hh6 => ?_
      have P46 := hp5.trans hp6
      obtain ⟨ai, hai, hii, hci⟩ := fC P46 hr
      obtain ⟨si, hsi, hsii, hsci⟩ := fA P46 hr
      refine ⟨ai, hai, by omega, by omega, _, hci, Br.f (decide_eq_false (by omega)) ⟨ai, hai, by omega, by omega, _, hci, si, hsi, by omega, by omega, _, hsci, Br.f (decide_eq_false ?_) (pairs w6 P46)⟩⟩
      rw [wrap_in (by omega) (by omega)]
      omega
    · have h0 : r.ov ≠ 0 := by simpa using h0
      have := b3 h0
      refine dwE_intro fun w6 hp6 hh6 => ?_
      have P46 := hp5.trans hp6
      obtain ⟨ai, hai, hii, hci⟩ := fC P46 hr
      obtain ⟨si, hsi, hsii, hsci⟩ := fA P46 hr
      refine ⟨ai, hai, by omega, by omega, _, hci, Br.f (decide_eq_false (by omega)) ⟨ai, hai, by omega, by omega, _, hci, si, hsi, by omega, by omega, _, hsci, Br.f (decide_eq_false ?_) (pairs w6 P46)⟩⟩
      rw [wrap_in (by omega) (by omega), wrap_in (by omega) (by omega)]
      omega
end Go.Proofs.Ytcnenlmhbpijlaa
