import Derived.Test.YtcnenlmhbpijlaaLkU
import Derived.Test.YtcnenlmhbpijlaaLkFplaces
import Derived.Test.YtcnenlmhbpijlaaShTwelve
/- Link: the addresses of procedures: the program's Link, the reference's, the law LinkPlaces. No condition but the reach's. -/
set_option maxRecDepth 100000
set_option linter.unusedVariables false
set_option linter.unusedSimpArgs false
namespace Go.Proofs.Ytcnenlmhbpijlaa
open Go.Sh Go.RowKit

theorem u77 : Try.prog.underlying 77 = some (.array 16 3) := by kernel_rfl
theorem index77 (f : Nat → Int) (w : World) : (Instr.index 77 (.agg (endV f).toArray) (.int .i64 0)).run Try.prog w = .ok (.int .i64 (f 0)) w := by
  have h1 : (part 3 (endV f).toArray 0).run Try.prog w = .ok (.int .i64 (f 0)) w := run_part_one (P := Try.prog) (by kernel_rfl) (by kernel_rfl) (endV_at f (by omega))
  unfold Instr.index
  simp only [asIntOf, Sem.run_bind, Sem.run_pure, Result.andThen_ok, run_under u77]
  have h0 : (0 : Int) ≤ 0 ∧ (0 : Int) < ((16 : Nat) : Int) := by omega
  rw [if_pos h0]
  simp only [Sem.run_bind, Try.sizeOf3, Result.andThen_ok, Int.toNat_zero, Nat.zero_mul, h1]

/-! ### Addresses -/
def szI (R : List RP) (o : Int) : Int := (R.map fun r => if r.ov = o then r.size else 0).sum
theorem szR_szI (R : List RP) (i : Nat) : szR R i = szI R (i : Int) := rfl
def baseOf (root : Int) (o : Int) : Int := if o = 0 then 0 else root
def placesFrom (root : Int) : List RP → List RP → List Int
  | _, [] => []
  | done, r :: rs => (baseOf root r.ov + szI done r.ov) :: placesFrom root (done ++ [r]) rs
def placesS (root : Int) (R : List RP) : List Int := placesFrom root [] R
theorem placesFrom_snoc (root : Int) (r : RP) : ∀ (A done : List RP), placesFrom root done (A ++ [r]) = placesFrom root done A ++ [baseOf root r.ov + szI (done ++ A) r.ov]
  | [], done => by simp [placesFrom]
  | x :: A, done => by
    simp only [List.cons_append, placesFrom]
    rw [placesFrom_snoc root r A (done ++ [x])]
    simp
theorem placesS_snoc (root : Int) (r : RP) (A : List RP) : placesS root (A ++ [r]) = placesS root A ++ [baseOf root r.ov + szI A r.ov] := by
  rw [placesS, placesFrom_snoc]; rfl
theorem placesFrom_len (root : Int) : ∀ (A done : List RP), (placesFrom root done A).length = A.length
  | [], _ => rfl
  | x :: A, done => by simp [placesFrom, placesFrom_len root A]
theorem placesS_len (root : Int) (A : List RP) : (placesS root A).length = A.length := placesFrom_len root A []
def linkS (l : List Mod) : List ByteArray × List Int × Int := if openE l = 0 then ((RL l).map (·.name), placesS (szOf l 0) (RL l), 0) else ([], [], openE l)

abbrev intV (l : List Int) : List Value := l.map (Value.int .i64)
theorem rd_of_ints {w : World} {e : TypeId} {s : SV} {l : List Int} (h : RowAt w e 1 s (intV l)) (hb : ∀ x ∈ l, -9223372036854775808 ≤ x ∧ x ≤ 9223372036854775807) (hl : l.length ≤ 140737488355328) : RdSl w s l := by
  have hlen : s.len = l.length := by have := h.1; simp at this; omega
  refine ⟨hlen, h.le_cap.1, by omega, fun i x hx => ?_⟩
  obtain ⟨a, ha, hc, _⟩ := h.cell (j := i) (v := .int .i64 x) (by simp [hx])
  refine ⟨a, ha, [.int .i64 x], ⟨rfl, hb x (List.mem_of_getElem? hx)⟩, fun j v hv => ?_⟩
  obtain ⟨rfl, rfl⟩ := one_at hv
  have e0 : ∀ a : Addr, a.add 0 = a := fun a => by simp [Addr.add]
  rw [e0, show i * Enc.sz Int = i from Nat.mul_one i]
  exact hc
theorem szI_bounds {R : List RP} (h : ∀ r ∈ R, 1 ≤ r.size ∧ r.size ≤ 10000) (o : Int) : 0 ≤ szI R o ∧ szI R o ≤ 10000 * (R.length : Int) := by
  induction R with
  | nil => simp [szI]
  | cons r R ih =>
    have h1 := ih fun x hx => h x (List.mem_cons_of_mem _ hx)
    have h2 := h r List.mem_cons_self
    simp only [szI, List.map_cons, List.sum_cons, List.length_cons] at h1 ⊢
    split <;> omega
theorem szI_snoc (A : List RP) (r : RP) (o : Int) : szI (A ++ [r]) o = szI A o + (if r.ov = o then r.size else 0) := by simp [szI]
theorem places_bounds {root : Int} (h0 : 0 ≤ root) (h1 : root ≤ 1000000) : ∀ {A : List RP}, (∀ r ∈ A, 1 ≤ r.size ∧ r.size ≤ 10000) → A.length ≤ 100 → ∀ x ∈ placesS root A, 0 ≤ x ∧ x ≤ 2000000 := by
  have key : ∀ (A done : List RP), (∀ r ∈ done ++ A, 1 ≤ r.size ∧ r.size ≤ 10000) → (done ++ A).length ≤ 100 → ∀ x ∈ placesFrom root done A, 0 ≤ x ∧ x ≤ 2000000 := by
    intro A
    induction A with
    | nil => intro done _ _ x hx; simp [placesFrom] at hx
    | cons r A ih =>
      intro done hd hl x hx
      rcases List.mem_cons.1 hx with rfl | hx
      · have hb := szI_bounds (R := done) (fun q hq => hd q (List.mem_append_left _ hq)) r.ov
        simp only [List.length_append, List.length_cons] at hl
        unfold baseOf
        split <;> omega
      · exact ih (done ++ [r]) (by simpa using hd) (by simpa using hl) x hx
  intro A hA hl
  exact key A [] (by simpa using hA) (by simpa using hl)

abbrev nextF (root : Int) (done : List RP) (i : Nat) : Int := baseOf root (i : Int) + szR done i

set_option maxHeartbeats 4000000 in
theorem link_c (w : World) (s : SV) (l : List Mod) (hl : RdSl w s l) (hL : Lim.ok l) : Calls Try.prog 26 #[.slice s.a s.len s.cap] w fun e w' => ∃ t1 t2 : SV, e = .returned (.tuple #[.slice t1.a t1.len t1.cap, .slice t2.a t2.len t2.cap, .int .i64 (linkS l).2.2]) ∧
    RdSl w' t1 (linkS l).1 ∧ RdSl w' t2 (linkS l).2.1 ∧ Pu w w' := by
  refine F26_calls s w _ ?_
  refine Calls.mono (open_c w s l hl hL) ?_
  rintro e w1 ⟨m0, rfl, hp1, _⟩
  refine ⟨m0, _, rfl, Br.of (fun h1 => ?_) (fun h1 => ?_)⟩
  · have h1 : openE l ≠ 0 := by simpa using h1
    exact ⟨⟨none, 0, 0⟩, ⟨none, 0, 0⟩, by rw [linkS, if_neg h1], by rw [linkS, if_neg h1]; exact RdSl.nil w1 none 0, by rw [linkS, if_neg h1]; exact RdSl.nil w1 none 0, hp1⟩
  have h1 : openE l = 0 := by simpa using h1
  have hF := fits_of (open_valid h1)
  have hRLen := RL_len hF
  have hn100 := hF.procs
  refine Calls.mono (ends_c w1 s l (hl.pu hp1) hF) ?_
  rintro e w2 ⟨rfl, hp2⟩
  refine ⟨_, _, _, _, _, _, _, _, _, _, _, _, _, _, _, _, rfl, ?_⟩
  refine ⟨szOf l 0, w2, index77 (szOf l) w2, ?_⟩
  have hroot := szOf_bounds (l := l) (fun m hm => ⟨hF.right m hm, hF.sizes m hm⟩) 0
  generalize hr0 : szOf l 0 = root at hroot
  refine alE_intro fun w3 hw3 => ?_
  have hp3 : Pu w2 w3 := by rw [hw3]; exact Pu.alloc w2 _
  have hP3 := (hp1.trans hp2).trans hp3
  have hb3 : w3.heap[w2.heap.size]? = some (.cells (endV fun _ => 0).toArray 77) := by rw [hw3]; exact alloc_new w2 _
  have hs3 : w3.heap.size = w2.heap.size + 1 := by rw [hw3]; simp
  have hs02 := (hp1.trans hp2).size
  -- where each overlay begins
  refine loopUp 15 (fun k t w' => Pu w w' ∧ t = (k : Int) + 1 ∧ w2.heap.size < w'.heap.size ∧ w'.heap[w2.heap.size]? = some (.cells (endV fun i => if i = 0 then 0 else if i ≤ k then root else 0).toArray 77)) ⟨hP3, rfl, by omega, by
    rw [hb3]; rfl⟩ ?_
  rintro k J t w4 hk ⟨hp4, rfl, hs4, hb4⟩ hJ
  refine Br.of (fun hlt => ?_) (fun hge => ?_)
  · have hlt' : k < 15 := by have := dtrue hlt; omega
    refine ⟨by omega, by omega, ?_⟩
    rw [show ((k : Int) + 1).toNat * 1 = k + 1 by omega, add_def, Nat.zero_add]
    refine st1_intro hb4 (by simp; omega) fun w5 hw5 hb5 => ?_
    have hf5 : Fr (· = w2.heap.size) w4 w5 := by rw [hw5]; exact Fr.cell w4 _ _ _
    rw [wrap_in (by omega) (by omega)]
    refine hJ _ _ hlt' ⟨Pu.andNew hp4 hf5 fun i hi => by omega, by omega, by have := hf5.size; omega, ?_⟩
    rw [hb5]
    congr 2
    have := endV_set (fun i => if i = 0 then 0 else if i ≤ k then root else 0) (fun i => if i = 0 then 0 else if i ≤ k + 1 then root else 0) (k + 1) (by omega) (fun i hi => by
      by_cases h0 : i = 0
      · simp [h0]
      · simp only [if_neg h0]
        by_cases h2 : i ≤ k
        · rw [if_pos h2, if_pos (by omega)]
        · rw [if_neg h2, if_neg (by omega)])
    simpa using this
  have hk15 : k = 15 := by have := dfalse hge; omega
  subst hk15
  have hb4 : w4.heap[w2.heap.size]? = some (.cells (endV (nextF root [])).toArray 77) := by
    rw [hb4]
    congr 2
    apply congrArg
    apply List.map_congr_left
    intro i hi
    have hi : i < 16 := by simpa using hi
    have : nextF root [] i = if i = 0 then 0 else if i ≤ 15 then root else 0 := by
      unfold nextF baseOf szR
      by_cases h0 : i = 0
      · subst h0; rfl
      · have hi0 : ¬ (i : Int) = 0 := by omega
        rw [if_neg hi0, if_neg h0, if_pos (by omega)]; simp
    rw [this]
  clear hJ hge
  have hlen := hl.len
  have hl32 := hF.len
  refine loopUp l.length (fun k t w' => Pu w w' ∧ t.2.2 = (k : Int) ∧ w'.heap[w2.heap.size]? = some (.cells (endV (nextF root (RL (l.take k)))).toArray 77) ∧ RowAt w' 9 1 t.1 (strV ((RL (l.take k)).map (·.name))) ∧ RowAt w' 3 1 t.2.1 (intV (placesS root (RL (l.take k)))) ∧
      (∀ i ∈ blkOf t.1, w2.heap.size < i) ∧ (∀ i ∈ blkOf t.2.1, w2.heap.size < i) ∧ (∀ i ∈ blkOf t.1, i ∉ blkOf t.2.1))
    ⟨hp4, rfl, hb4, RowAt.nil _ _ _, RowAt.nil _ _ _, by simp [blkOf], by simp [blkOf], by simp [blkOf]⟩ ?_
  rintro k J ⟨l10, l11, t⟩ w5 hk ⟨hp5, ht, hb5, hr10, hr11, hf10, hf11, hd⟩ hJ
  obtain rfl : t = (k : Int) := ht
  have hr10 : RowAt w5 9 1 l10 (strV ((RL (l.take k)).map (·.name))) := hr10
  have hr11 : RowAt w5 3 1 l11 (intV (placesS root (RL (l.take k)))) := hr11
  have hf10 : ∀ i ∈ blkOf l10, w2.heap.size < i := hf10
  have hf11 : ∀ i ∈ blkOf l11, w2.heap.size < i := hf11
  have hd : ∀ i ∈ blkOf l10, i ∉ blkOf l11 := hd
  dsimp only
  refine Br.of (fun hlt => ?_) (fun hge => ?_)
  · have hlt' : k < l.length := by have := dtrue hlt; omega
    obtain ⟨m, hm⟩ := at_k hlt'
    have hmem := List.mem_of_getElem? hm
    obtain ⟨a, p, z, c, ha, hi, hM, c0, c1, c2, c3, c4⟩ := modAt hl hm
    refine ⟨a, ha, by omega, by omega, m.name, by simpa using hp5.cell c0, m.ov, by simpa using hp5.cell c1, p, by simpa using hp5.cell c2, z, by simpa using hp5.cell c3, c, by simpa using hp5.cell c4, ?_⟩
    refine boxA (by rfl) (by kernel_rfl) (by rfl) fun w6 hp6 hs6 hb6 => ?_
    refine ⟨p, by rw [add_def, cell_blk hb6]; rfl, ?_⟩
    have hpl := hM.procs.len
    have hzl := hM.sizes.len
    have hcl := hM.calls.len
    have hsz := hF.sizes m hmem
    have hca := hF.callsL m hmem
    obtain ⟨hov, hszb⟩ := right_size (hF.right m hmem)
    obtain ⟨v, hv⟩ : ∃ v : Nat, m.ov = (v : Int) := ⟨m.ov.toNat, by omega⟩
    have hv16 : v < 16 := by omega
    have hRk : RL (l.take (k + 1)) = RL (l.take k) ++ rpOf m := RL_take hm
    have hlt5 := blk_lt hb5
    have hRtot : (RL (l.take k)).length + m.procs.length ≤ 100 := by
      have e1 := congrArg List.length hRk
      have e2 : (RL (l.take (k + 1))).length ≤ (RL l).length := by
        have e3 : RL l = RL (l.take (k + 1)) ++ RL (l.drop (k + 1)) := by
          unfold RL; rw [← List.flatMap_append, List.take_append_drop]
        rw [e3, List.length_append]; omega
      rw [List.length_append, rpOf_len hsz hca] at e1
      omega
    have hRb : ∀ r ∈ RL (l.take k) ++ rpOf m, (0 ≤ r.ov ∧ r.ov ≤ 15) ∧ 1 ≤ r.size ∧ r.size ≤ 10000 := fun r hr => by
      rw [← hRk] at hr
      refine RL_mem hF ?_
      unfold RL at hr ⊢
      obtain ⟨q, hq, hr⟩ := List.mem_flatMap.1 hr
      exact List.mem_flatMap.2 ⟨q, List.mem_of_mem_take hq, hr⟩
    refine loopUp m.procs.length (fun j t w' => Pu w w' ∧ t.2.2 = (j : Int) ∧ w'.heap[w5.heap.size]? = some (.cells #[.string m.name, .int .i64 m.ov, .slice p.a p.len p.cap, .slice z.a z.len z.cap, .slice c.a c.len c.cap] 33) ∧ w'.heap[w2.heap.size]? = some (.cells (endV (nextF root (RL (l.take k) ++ (rpOf m).take j))).toArray 77) ∧
        RowAt w' 9 1 t.1 (strV ((RL (l.take k) ++ (rpOf m).take j).map (·.name))) ∧ RowAt w' 3 1 t.2.1 (intV (placesS root (RL (l.take k) ++ (rpOf m).take j))) ∧
        (∀ i ∈ blkOf t.1, w2.heap.size < i ∧ i ≠ w5.heap.size) ∧ (∀ i ∈ blkOf t.2.1, w2.heap.size < i ∧ i ≠ w5.heap.size) ∧ (∀ i ∈ blkOf t.1, i ∉ blkOf t.2.1))
      ⟨hp5.trans hp6, rfl, hb6, by simpa using hp6.blk hb5, by simpa using hr10.pu hp6, by simpa using hr11.pu hp6, fun i hi => ⟨hf10 i hi, by have := hr10.lt i hi; omega⟩, fun i hi => ⟨hf11 i hi, by have := hr11.lt i hi; omega⟩, hd⟩ ?_
    rintro j J2 ⟨l10', l11', t⟩ w7 hj ⟨hp7, ht, hbm, hbn, hrA, hrB, hfA, hfB, hdd⟩ hJ2
    obtain rfl : t = (j : Int) := ht
    generalize hdone : RL (l.take k) ++ (rpOf m).take j = done at hbn hrA hrB
    have hrA : RowAt w7 9 1 l10' (strV (done.map (·.name))) := hrA
    have hrB : RowAt w7 3 1 l11' (intV (placesS root done)) := hrB
    have hfA : ∀ i ∈ blkOf l10', w2.heap.size < i ∧ i ≠ w5.heap.size := hfA
    have hfB : ∀ i ∈ blkOf l11', w2.heap.size < i ∧ i ≠ w5.heap.size := hfB
    have hdd : ∀ i ∈ blkOf l10', i ∉ blkOf l11' := hdd
    dsimp only
    have hdl : done.length = (RL (l.take k)).length + j := by
      rw [← hdone, List.length_append, List.length_take, rpOf_len hsz hca, Nat.min_eq_left hj]
    refine Br.of (fun hlt2 => ?_) (fun hge2 => ?_)
    · have hlt2' : j < m.procs.length := by have := dtrue hlt2; omega
      obtain ⟨x, hx⟩ := at_k hlt2'
      obtain ⟨y, hy⟩ := at_k (l := m.sizes) (k := j) (by omega)
      obtain ⟨cs, hcs⟩ := at_k (l := m.calls) (k := j) (by omega)
      obtain ⟨a2, ha2, hi2, hc2⟩ := hM.procs.str hx
      obtain ⟨a3, ha3, hi3, hc3, _⟩ := hM.sizes.int hy
      have hrp := rpOf_at hx hy hcs
      have hdone' : RL (l.take k) ++ (rpOf m).take (j + 1) = done ++ [⟨x, m.ov, y, cs⟩] := by rw [take_at hrp, ← List.append_assoc, hdone]
      have hdb : ∀ r ∈ done, (0 ≤ r.ov ∧ r.ov ≤ 15) ∧ 1 ≤ r.size ∧ r.size ≤ 10000 := fun r hr => hRb r (by
        rw [← hdone] at hr
        rcases List.mem_append.1 hr with h | h
        · exact List.mem_append_left _ h
        · exact List.mem_append_right _ (List.mem_of_mem_take h))
      have hyb := hszb y (List.mem_of_getElem? hy)
      have hszI := szI_bounds (R := done) (fun r hr => (hdb r hr).2) (v : Int)
      have hbase : 0 ≤ baseOf root (v : Int) ∧ baseOf root (v : Int) ≤ 1000000 := by unfold baseOf; split <;> omega
      refine ⟨a2, ha2, by omega, by omega, x, by simpa using hp7.cell hc2, ?_⟩
      refine dwE_intro fun w8 hp8 hh8 => ?_
      have hbm8 := hp8.blk hbm
      have hbn8 := hp8.blk hbn
      let S1 : World → Prop := fun u => u.heap[w5.heap.size]? = some (.cells #[.string m.name, .int .i64 m.ov, .slice p.a p.len p.cap, .slice z.a z.len z.cap, .slice c.a c.len c.cap] 33) ∧ u.heap[w2.heap.size]? = some (.cells (endV (nextF root done)).toArray 77)
      have hS8 : S1 w8 := ⟨hbm8, hbn8⟩
      have Spu : ∀ {a b : World}, S1 a → Pu a b → S1 b := fun h hp => ⟨hp.blk h.1, hp.blk h.2⟩
      have Sfr : ∀ {a b : World} {B : Nat → Prop}, S1 a → Fr B a b → ¬ B w5.heap.size → ¬ B w2.heap.size → S1 b := fun h hf h1 h2 => ⟨hf.blk h.1 h1, hf.blk h.2 h2⟩
      refine ⟨S1, hS8, m.ov, fun u hu => by rw [add_def, cell_blk hu.1]; rfl, by omega, by omega, nextF root done v, fun u hu => ?_, ?_⟩
      · rw [hv, Int.toNat_natCast, Nat.mul_one, add_def, Nat.zero_add, cell_blk hu.2]
        exact endV_at _ hv16
      have hlA : l10'.len = done.length := by have := hrA.1; simp at this; omega
      have hlB : l11'.len = done.length := by have := hrB.1; simp [placesS_len] at this; omega
      have hw78 := hp8.size
      have hlt7a := blk_lt hbm
      have hlt7b := blk_lt hbn
      have hltA := hrA.lt
      have hltB := hrB.lt
      -- behind both
      have tail : ∀ (w9 : World) (l51 l58 : SV), Pu w w9 → S1 w9 → RowAt w9 9 1 l51 (strV (done.map (·.name)) ++ [.string x]) → RowAt w9 3 1 l58 (intV (placesS root done) ++ [.int .i64 (nextF root done v)]) → (∀ i ∈ blkOf l51, w2.heap.size < i ∧ i ≠ w5.heap.size) → (∀ i ∈ blkOf l58, w2.heap.size < i ∧ i ≠ w5.heap.size) → (∀ i ∈ blkOf l51, i ∉ blkOf l58) →
          dwE w9 fun w10 => ptrE (some (⟨w5.heap.size, 0, none⟩ : Addr)) fun a11 => ∃ n60 : Int, w10.cell? (a11.add 1) = some (.int .i64 n60) ∧ ptrE (some (⟨w2.heap.size, 0, none⟩ : Addr)) fun a12 => 0 ≤ n60 ∧ n60 < ((16 : Nat) : Int) ∧ ∃ n62 : Int, w10.cell? (a12.add (n60.toNat * 1)) = some (.int .i64 n62) ∧
            ptrE (some (⟨w5.heap.size, 0, none⟩ : Addr)) fun a13 => ∃ l64 : SV, w10.cell? (a13.add 3) = some (.slice l64.a l64.len l64.cap) ∧ ∃ a14 : Addr, l64.a = some a14 ∧ 0 ≤ (j : Int) ∧ (j : Int) < ((l64.len : Nat) : Int) ∧ ∃ n67 : Int, w10.cell? (a14.add ((j : Int).toNat * 1)) = some (.int .i64 n67) ∧
            ptrE (some (⟨w2.heap.size, 0, none⟩ : Addr)) fun a15 => 0 ≤ n60 ∧ n60 < ((16 : Nat) : Int) ∧ st1 (a15.add (n60.toNat * 1)) (.int .i64 (IntKind.i64.wrap (n62 + n67))) w10 fun w16 => J2 (l51, l58, (IntKind.i64.wrap ((j : Int) + 1))) w16 := fun w9 l51 l58 hp9 hS9 hr51 hr58 hf51 hf58 hd5 => by
        refine dwE_intro fun w10 hp10 hh10 => ?_
        have hS10 := Spu hS9 hp10
        have hP10 := hp9.trans hp10
        refine ⟨m.ov, by rw [add_def, cell_blk hS10.1]; rfl, by omega, by omega, nextF root done v, ?_, z, by rw [add_def, cell_blk hS10.1]; rfl, a3, ha3, by omega, by omega, y, by simpa using hP10.cell hc3, by omega, by omega, ?_⟩
        · rw [hv, Int.toNat_natCast, Nat.mul_one, add_def, Nat.zero_add, cell_blk hS10.2]
          exact endV_at _ hv16
        rw [hv, Int.toNat_natCast, Nat.mul_one, add_def, Nat.zero_add]
        refine st1_intro hS10.2 (by simp; omega) fun w11 hw11 hb11 => ?_
        have hf11' : Fr (· = w2.heap.size) w10 w11 := by rw [hw11]; exact Fr.cell w10 _ _ _
        have hnF : nextF root done v = baseOf root (v : Int) + szI done (v : Int) := rfl
        rw [wrap_in (n := (j : Int) + 1) (by omega) (by omega)]
        refine hJ2 _ _ hlt2' ⟨Pu.andNew hP10 hf11' fun i hi => by omega, rfl, hf11'.blk hS10.1 (by omega), ?_, ?_, ?_, hf51, hf58, hd5⟩
        · rw [hb11, hdone', wrap_in (by omega) (by omega)]
          congr 2
          have hg : nextF root (done ++ [⟨x, m.ov, y, cs⟩]) v = nextF root done v + y := by
            show baseOf root (v : Int) + szI (done ++ [⟨x, m.ov, y, cs⟩]) (v : Int) = _
            rw [szI_snoc, if_pos hv, hnF]
            show baseOf root (v : Int) + (szI done (v : Int) + y) = baseOf root (v : Int) + szI done (v : Int) + y
            omega
          rw [← hg]
          exact endV_set _ _ v hv16 fun i hi => by
            show baseOf root (i : Int) + szI (done ++ [⟨x, m.ov, y, cs⟩]) (i : Int) = baseOf root (i : Int) + szI done (i : Int)
            rw [szI_snoc, if_neg (by show ¬ m.ov = _; omega)]; omega
        · show RowAt w11 9 1 l51 _
          rw [hdone', List.map_append]
          have := (hr51.pu hp10).fr hf11' fun i hi e => by have := (hf51 i hi).1; have e : i = w2.heap.size := e; omega
          simpa [strV] using this
        · show RowAt w11 3 1 l58 _
          rw [hdone', placesS_snoc]
          have := (hr58.pu hp10).fr hf11' fun i hi e => by have := (hf58 i hi).1; have e : i = w2.heap.size := e; omega
          have hat : baseOf root m.ov + szI done m.ov = nextF root done v := by rw [hv]; rfl
          simp only [hat]
          simpa [intV] using this
      have hP8 := hp7.trans hp8
      have hw5s := hp5.size
      -- the names' row
      have app1 : ∀ (u : World) (rs : Nat), Pu w u → S1 u → RowAt u 9 1 l10' (strV (done.map (·.name))) → RowAt u 3 1 l11' (intV (placesS root done)) → w7.heap.size ≤ u.heap.size → u.heap[rs]? = some (.cells #[.string x] 9) →
          ∃ (l51 : SV) (u' : World), (Builtin.append_ #[23, 23] 23 #[.slice l10'.a l10'.len l10'.cap, .slice (some ⟨rs, 0, none⟩) 1 1]).run Try.prog u = .ok (.slice l51.a l51.len l51.cap) u' ∧ Pu w u' ∧ S1 u' ∧ RowAt u' 9 1 l51 (strV (done.map (·.name)) ++ [.string x]) ∧ RowAt u' 3 1 l11' (intV (placesS root done)) ∧
            (∀ i ∈ blkOf l51, w2.heap.size < i ∧ i ≠ w5.heap.size) ∧ (∀ i ∈ blkOf l51, i ∉ blkOf l11') ∧ w7.heap.size ≤ u'.heap.size ∧ (∀ ri o, w7.heap.size ≤ ri → u.heap[ri]? = some o → u'.heap[ri]? = some o) := fun u rs hpu hS hA hB hle hc => by
        obtain ⟨l51, u', hra, hrow, hf, hblk, hlen'⟩ := row_push (P := Try.prog) (ty := 23) (t := 23) u23 info_str rfl (s := l10') hA (a := ⟨rs, 0, none⟩) (u := .string x) (by rw [cell_blk hc]; rfl) rfl (by omega)
        refine ⟨l51, u', hra, Pu.andNew hpu hf fun i hi => by have := (hfA i hi).1; omega, Sfr hS hf (fun h => (hfA _ h).2 rfl) (fun h => by have := (hfA _ h).1; omega), hrow, hB.fr hf fun i hi h => hdd i h hi, fun i hi => ?_, fun i hi h => ?_, by have := hf.size; omega, fun ri o hri ho => hf.blk ho fun h => by have := hltA ri h; omega⟩
        · rcases hblk i hi with h | h
          · exact hfA i h
          · constructor <;> omega
        · rcases hblk i hi with h' | h'
          · exact hdd i h' h
          · have := hltB i h; omega
      -- the places' row
      have app2 : ∀ (u : World) (l51 : SV) (ri : Nat), Pu w u → S1 u → RowAt u 9 1 l51 (strV (done.map (·.name)) ++ [.string x]) → RowAt u 3 1 l11' (intV (placesS root done)) → (∀ i ∈ blkOf l51, w2.heap.size < i ∧ i ≠ w5.heap.size) → (∀ i ∈ blkOf l51, i ∉ blkOf l11') → w7.heap.size ≤ u.heap.size → u.heap[ri]? = some (.cells #[.int .i64 (nextF root done v)] 3) →
          ∃ (l58 : SV) (u' : World), (Builtin.append_ #[30, 30] 30 #[.slice l11'.a l11'.len l11'.cap, .slice (some ⟨ri, 0, none⟩) 1 1]).run Try.prog u = .ok (.slice l58.a l58.len l58.cap) u' ∧ dwE u' fun w10 => ptrE (some (⟨w5.heap.size, 0, none⟩ : Addr)) fun a11 => ∃ n60 : Int, w10.cell? (a11.add 1) = some (.int .i64 n60) ∧ ptrE (some (⟨w2.heap.size, 0, none⟩ : Addr)) fun a12 => 0 ≤ n60 ∧ n60 < ((16 : Nat) : Int) ∧ ∃ n62 : Int, w10.cell? (a12.add (n60.toNat * 1)) = some (.int .i64 n62) ∧
            ptrE (some (⟨w5.heap.size, 0, none⟩ : Addr)) fun a13 => ∃ l64 : SV, w10.cell? (a13.add 3) = some (.slice l64.a l64.len l64.cap) ∧ ∃ a14 : Addr, l64.a = some a14 ∧ 0 ≤ (j : Int) ∧ (j : Int) < ((l64.len : Nat) : Int) ∧ ∃ n67 : Int, w10.cell? (a14.add ((j : Int).toNat * 1)) = some (.int .i64 n67) ∧
            ptrE (some (⟨w2.heap.size, 0, none⟩ : Addr)) fun a15 => 0 ≤ n60 ∧ n60 < ((16 : Nat) : Int) ∧ st1 (a15.add (n60.toNat * 1)) (.int .i64 (IntKind.i64.wrap (n62 + n67))) w10 fun w16 => J2 (l51, l58, (IntKind.i64.wrap ((j : Int) + 1))) w16 := fun u l51 ri hpu hS hA hB hfa hda hle hc => by
        have hlt51 := hA.lt
        obtain ⟨l58, u', hra, hrow, hf, hblk, hlen'⟩ := row_push (P := Try.prog) (ty := 30) (t := 30) u30 info3 rfl (s := l11') hB (a := ⟨ri, 0, none⟩) (u := .int .i64 (nextF root done v)) (by rw [cell_blk hc]; rfl) rfl (by omega)
        refine ⟨l58, u', hra, tail u' l51 l58 (Pu.andNew hpu hf fun i hi => by have := (hfB i hi).1; omega) (Sfr hS hf (fun h => (hfB _ h).2 rfl) (fun h => by have := (hfB _ h).1; omega)) (hA.fr hf fun i hi h => hda i hi h) hrow hfa (fun i hi => ?_) (fun i hi h => ?_)⟩
        · rcases hblk i hi with h | h
          · exact hfB i h
          · constructor <;> omega
        · rcases hblk i h with h' | h'
          · exact hda i hi h'
          · have := hlt51 i hi; omega
      refine ⟨?_, ?_⟩
      · refine alE_intro fun w9 hw9 => ?_
        have hp9 : Pu w8 w9 := by rw [hw9]; exact Pu.alloc w8 _
        have hn9 : w9.heap[w8.heap.size]? = some (.cells #[.string x] 9) := by rw [hw9]; exact alloc_new w8 _
        have hs9 := hp9.size
        refine ⟨Spu hS8 hp9, ?_, ?_⟩
        · obtain ⟨l51, w10, hra, q1, q2, q3, q4, q5, q6, q7, q8⟩ := app1 w9 w8.heap.size (hP8.trans hp9) (Spu hS8 hp9) ((hrA.pu hp8).pu hp9) ((hrB.pu hp8).pu hp9) (by omega) hn9
          refine ⟨l51, w10, hra, q2, ?_⟩
          refine alE_intro fun w11 hw11 => ?_
          have hp11 : Pu w10 w11 := by rw [hw11]; exact Pu.alloc w10 _
          have hn11 : w11.heap[w10.heap.size]? = some (.cells #[.int .i64 (nextF root done v)] 3) := by rw [hw11]; exact alloc_new w10 _
          have hs11 := hp11.size
          exact app2 w11 l51 w10.heap.size (q1.trans hp11) (Spu q2 hp11) (q3.pu hp11) (q4.pu hp11) q5 q6 (by omega) hn11
        · refine alE_intro fun w10 hw10 => ?_
          have hp10 : Pu w9 w10 := by rw [hw10]; exact Pu.alloc w9 _
          have hn10 : w10.heap[w9.heap.size]? = some (.cells #[.int .i64 (nextF root done v)] 3) := by rw [hw10]; exact alloc_new w9 _
          have hs10 := hp10.size
          obtain ⟨l51, w11, hra, q1, q2, q3, q4, q5, q6, q7, q8⟩ := app1 w10 w8.heap.size ((hP8.trans hp9).trans hp10) (Spu (Spu hS8 hp9) hp10) (((hrA.pu hp8).pu hp9).pu hp10) (((hrB.pu hp8).pu hp9).pu hp10) (by omega) (hp10.blk hn9)
          exact ⟨l51, w11, hra, app2 w11 l51 w9.heap.size q1 q2 q3 q4 q5 q6 q7 (q8 _ _ (by omega) hn10)⟩
      · refine alE_intro fun w9 hw9 => ?_
        have hp9 : Pu w8 w9 := by rw [hw9]; exact Pu.alloc w8 _
        have hn9 : w9.heap[w8.heap.size]? = some (.cells #[.int .i64 (nextF root done v)] 3) := by rw [hw9]; exact alloc_new w8 _
        have hs9 := hp9.size
        refine alE_intro fun w10 hw10 => ?_
        have hp10 : Pu w9 w10 := by rw [hw10]; exact Pu.alloc w9 _
        have hn10 : w10.heap[w9.heap.size]? = some (.cells #[.string x] 9) := by rw [hw10]; exact alloc_new w9 _
        have hs10 := hp10.size
        obtain ⟨l51, w11, hra, q1, q2, q3, q4, q5, q6, q7, q8⟩ := app1 w10 w9.heap.size ((hP8.trans hp9).trans hp10) (Spu (Spu hS8 hp9) hp10) (((hrA.pu hp8).pu hp9).pu hp10) (((hrB.pu hp8).pu hp9).pu hp10) (by omega) hn10
        exact ⟨l51, w11, hra, app2 w11 l51 w8.heap.size q1 q2 q3 q4 q5 q6 q7 (q8 _ _ (by omega) (hp10.blk hn9))⟩
    · have hge2' : ¬ j < m.procs.length := by have := dfalse hge2; omega
      have hte := take_end (l := rpOf m) (k := j) (by rw [rpOf_len hsz hca]; omega) (by rw [rpOf_len hsz hca]; omega)
      rw [hte, ← hRk] at hdone
      subst hdone
      show J _ _
      rw [wrap_in (by omega) (by omega)]
      exact hJ _ _ hlt' ⟨hp7, rfl, hbn, hrA, hrB, fun i hi => (hfA i hi).1, fun i hi => (hfB i hi).1, hdd⟩
  · have hge' : ¬ k < l.length := by have := dfalse hge; omega
    rw [take_end hk hge'] at hr10 hr11
    have hRbs : ∀ r ∈ RL l, 1 ≤ r.size ∧ r.size ≤ 10000 := fun r hr => (RL_mem hF hr).2
    have hpb := places_bounds hroot.1 (by omega) hRbs (by omega)
    refine ⟨l10, l11, by rw [linkS, if_pos h1], ?_, ?_, hp5⟩
    · rw [linkS, if_pos h1]; exact rd_of_row hr10 (by show (List.map _ _).length ≤ _; simp; omega)
    · rw [linkS, if_pos h1, hr0]
      exact rd_of_ints hr11 (fun x hx => by have := hpb x hx; omega) (by show (placesS _ _).length ≤ _; rw [placesS_len]; omega)
end Go.Proofs.Ytcnenlmhbpijlaa
