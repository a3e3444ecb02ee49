import Derived.Test.YtcnenlmhbpijlaaLkD
import Derived.Test.YtcnenlmhbpijlaaShEleven
/- Link: the procedures by their names, what is missing, what is opened. No condition but the reach's. -/
set_option maxRecDepth 100000
set_option linter.unusedVariables false
set_option linter.unusedSimpArgs false
namespace Go.Proofs.Ytcnenlmhbpijlaa
open Go.Sh Go.RowKit

theorem u57 : Try.prog.underlying 57 = some (.map 9 64) := by kernel_rfl
abbrev ekS : ByteArray → Value := fun s => .string s
abbrev evP : Int × SV → Value := fun p => .agg #[.int .i64 p.1, .slice p.2.a p.2.len p.2.cap]
theorem K9 : Keys Try.prog 9 ekS := keys_str u9

abbrev PRow := ByteArray × (Int × SV)
abbrev PDat := ByteArray × (Int × List ByteArray)
def RdP (w : World) : List PRow → List PDat → Prop
  | [], [] => True
  | (a, o, s) :: r, (b, o', c) :: r' => a = b ∧ o = o' ∧ RdSl w s c ∧ RdP w r r'
  | _, _ => False
theorem RdP.pu {w w' : World} (hp : Pu w w') : ∀ {L : List PRow} {D : List PDat}, RdP w L D → RdP w' L D
  | [], [], _ => trivial
  | (a, o, s) :: r, (b, o', c) :: r', ⟨h1, h2, h3, h4⟩ => ⟨h1, h2, h3.pu hp, RdP.pu hp h4⟩
  | [], _ :: _, h => h.elim
  | (_, _, _) :: _, [], h => h.elim
theorem RdP.snoc {w : World} {a : ByteArray} {o : Int} {s : SV} {c : List ByteArray} (hs : RdSl w s c) : ∀ {L : List PRow} {D : List PDat}, RdP w L D → RdP w (L ++ [(a, o, s)]) (D ++ [(a, o, c)])
  | [], [], _ => ⟨rfl, rfl, hs, trivial⟩
  | (_, _, _) :: r, (_, _, _) :: r', ⟨h1, h2, h3, h4⟩ => ⟨h1, h2, h3, RdP.snoc hs h4⟩
  | [], _ :: _, h => h.elim
  | (_, _, _) :: _, [], h => h.elim
theorem RdP.keys {w : World} : ∀ {L : List PRow} {D : List PDat}, RdP w L D → L.map Prod.fst = D.map Prod.fst
  | [], [], _ => rfl
  | (_, _, _) :: r, (_, _, _) :: r', ⟨h1, _, _, h4⟩ => by simp [h1, RdP.keys h4]
  | [], _ :: _, h => h.elim
  | (_, _, _) :: _, [], h => h.elim
theorem RdP.mem {w : World} : ∀ {L : List PRow} {D : List PDat}, RdP w L D → ∀ {p : PRow}, p ∈ L → ∃ c, RdSl w p.2.2 c ∧ (p.1, p.2.1, c) ∈ D
  | [], [], _, p, h => by simp at h
  | (a, o, s) :: r, (b, o', c) :: r', ⟨h1, h2, h3, h4⟩, p, h => by
    rcases List.mem_cons.1 h with rfl | h
    · exact ⟨c, h3, by rw [h1, h2]; exact List.mem_cons_self⟩
    · obtain ⟨c', h5, h6⟩ := RdP.mem h4 h
      exact ⟨c', h5, List.mem_cons_of_mem _ h6⟩
  | [], _ :: _, h, _, _ => h.elim
  | (_, _, _) :: _, [], h, _, _ => h.elim
theorem RdP.mem' {w : World} : ∀ {L : List PRow} {D : List PDat}, RdP w L D → ∀ {q : PDat}, q ∈ D → ∃ s, RdSl w s q.2.2 ∧ (q.1, q.2.1, s) ∈ L
  | [], [], _, p, h => by simp at h
  | (a, o, s) :: r, (b, o', c) :: r', ⟨h1, h2, h3, h4⟩, p, h => by
    rcases List.mem_cons.1 h with rfl | h
    · exact ⟨s, h3, by rw [h1, h2]; exact List.mem_cons_self⟩
    · obtain ⟨c', h5, h6⟩ := RdP.mem' h4 h
      exact ⟨c', h5, List.mem_cons_of_mem _ h6⟩
  | [], _ :: _, h, _, _ => h.elim
  | (_, _, _) :: _, [], h, _, _ => h.elim

/-- What a procedure is, and nothing of none. -/
def getD (D : List PDat) (x : ByteArray) : Int × List ByteArray := (AL.get D x).getD (0, [])
def isIn (D : List PDat) (x : ByteArray) : Bool := (AL.get D x).isSome
def getL (L : List PRow) (x : ByteArray) : Int × SV := (AL.get L x).getD (0, ⟨none, 0, 0⟩)
theorem RdP.get {w : World} (x : ByteArray) : ∀ {L : List PRow} {D : List PDat}, RdP w L D → (AL.get L x).isSome = isIn D x ∧ (getL L x).1 = (getD D x).1 ∧ RdSl w (getL L x).2 (getD D x).2
  | [], [], _ => ⟨rfl, rfl, RdSl.nil w none 0⟩
  | (a, o, s) :: r, (b, o', c) :: r', ⟨h1, h2, h3, h4⟩ => by
    subst h1; subst h2
    by_cases h : a = x
    · simp only [isIn, getL, getD, AL.get, h, if_true]
      exact ⟨rfl, rfl, h3⟩
    · have := RdP.get x h4
      simpa only [isIn, getL, getD, AL.get, h, if_false] using this
  | [], _ :: _, h => h.elim
  | (_, _, _) :: _, [], h => h.elim

theorem look57 {w : World} {b : Nat} {L : List PRow} (h : MapAt w ekS evP b L) (x : ByteArray) :
    (Instr.lookup 57 (.map (some b)) (.string x) true).run Try.prog w = .ok (.tuple #[.agg #[.int .i64 (getL L x).1, .slice (getL L x).2.a (getL L x).2.len (getL L x).2.cap], .bool (AL.get L x).isSome]) w ∧
    (Instr.lookup 57 (.map (some b)) (.string x) false).run Try.prog w = .ok (.agg #[.int .i64 (getL L x).1, .slice (getL L x).2.a (getL L x).2.len (getL L x).2.cap]) w := by
  have h1 := h.look K9 u57 (Try.zeroValue64 w) x true
  have h2 := h.look K9 u57 (Try.zeroValue64 w) x false
  simp only [if_true, Bool.false_eq_true, if_false] at h1 h2
  rw [h1, h2]
  unfold getL
  cases AL.get L x <;> exact ⟨rfl, rfl⟩

/-! ### The procedures -/
def rowsOf (m : Mod) : List PDat := (m.procs.zip m.calls).map fun p => (p.1, m.ov, p.2)
def PL (l : List Mod) : List PDat := l.flatMap rowsOf
theorem rows_keys {m : Mod} (h : m.calls.length = m.procs.length) : (rowsOf m).map Prod.fst = m.procs := by
  simp only [rowsOf, List.map_map]
  rw [show ((fun x : PDat => x.1) ∘ fun p : ByteArray × List ByteArray => (p.1, m.ov, p.2)) = Prod.fst from rfl]
  exact List.map_fst_zip (by omega)
theorem PL_keys {l : List Mod} (h : ∀ m ∈ l, m.calls.length = m.procs.length) : (PL l).map Prod.fst = allProcs l := by
  induction l with
  | nil => rfl
  | cons m r ih =>
    simp only [PL, allProcs, List.flatMap_cons, List.map_append] at ih ⊢
    rw [rows_keys (h m List.mem_cons_self), ih fun m hm => h m (List.mem_cons_of_mem _ hm)]
theorem PL_take {l : List Mod} {k : Nat} {m : Mod} (h : l[k]? = some m) : PL (l.take (k + 1)) = PL (l.take k) ++ rowsOf m := by rw [take_at h]; simp [PL]
theorem rows_at {m : Mod} {j : Nat} {x : ByteArray} {c : List ByteArray} (hx : m.procs[j]? = some x) (hc : m.calls[j]? = some c) : (rowsOf m).take (j + 1) = (rowsOf m).take j ++ [(x, m.ov, c)] := by
  refine take_at ?_
  simp only [rowsOf, List.getElem?_map]
  rw [show (m.procs.zip m.calls)[j]? = some (x, c) from by
    rw [List.getElem?_zip_eq_some]; exact ⟨hx, hc⟩]
  rfl
theorem rows_len {m : Mod} (h : m.calls.length = m.procs.length) : (rowsOf m).length = m.procs.length := by simp [rowsOf, h]

/-- Modules that are right. -/
structure Fits (l : List Mod) : Prop where
  len : l.length ≤ 32
  procs : nprocs l ≤ 100
  calls : ∀ m ∈ l, ∀ c ∈ m.calls, c.length ≤ 100
  right : ∀ m ∈ l, rightB m = true
  sizes : ∀ m ∈ l, m.sizes.length = m.procs.length
  callsL : ∀ m ∈ l, m.calls.length = m.procs.length
  names : (l.map (·.name)).Nodup
  nodup : (allProcs l).Nodup
theorem fits_of {l : List Mod} (h : validS l = 0) : Fits l := by
  unfold validS at h
  split at h
  · cases h
  rename_i h1
  split at h
  · cases h
  rename_i h2
  split at h
  · cases h
  rename_i h3
  split at h
  case isFalse => cases h
  rename_i h4
  have h1 : largeB l = false := by simpa using h1
  obtain ⟨b1, b2, b3⟩ := large_bounds h1
  simp only [Bool.not_eq_true, Bool.not_eq_false', List.all_eq_true] at h2 h3
  simp only [Bool.and_eq_true, decide_eq_true_eq] at h4
  have h3' : ∀ m ∈ l, m.sizes.length = m.procs.length ∧ m.calls.length = m.procs.length := fun m hm => by simpa [fitB] using h3 m hm
  exact ⟨b1, b2, b3, h2, fun m hm => (h3' m hm).1, fun m hm => (h3' m hm).2, h4.1, h4.2⟩
theorem nodup_pre {α : Type} {a b : List α} (h : (a ++ b).Nodup) : a.Nodup := (List.nodup_append.1 h).1

theorem procs_le {l : List Mod} {m : Mod} (hm : m ∈ l) : m.procs.length ≤ nprocs l := by
  obtain ⟨k, hk⟩ := List.getElem?_of_mem hm
  have := nprocs_take hk
  have := nprocs_le (l := l) (k := k + 1)
  omega

theorem nodup_take {l : List Mod} (h : (allProcs l).Nodup) {k : Nat} : (allProcs (l.take k)).Nodup := by
  have e : allProcs l = allProcs (l.take k) ++ allProcs (l.drop k) := by
    unfold allProcs
    rw [← List.flatMap_append, List.take_append_drop]
  rw [e] at h
  exact nodup_pre h
theorem not_mem_before {A B : List ByteArray} {j : Nat} {x : ByteArray} (h : (A ++ B).Nodup) (hx : B[j]? = some x) : x ∉ A ++ B.take j := by
  have e : B = B.take j ++ x :: B.drop (j + 1) := by
    rw [← drop_at hx, List.take_append_drop]
  rw [e, ← List.append_assoc] at h
  intro hm
  exact (List.nodup_append.1 h).2.2 x hm x List.mem_cons_self rfl

set_option maxHeartbeats 1000000 in
theorem procs_c (w : World) (s : SV) (l : List Mod) (hl : RdSl w s l) (hF : Fits l) : Calls Try.prog 54 #[.slice s.a s.len s.cap] w fun e w' => ∃ b L, e = .returned (.map (some b)) ∧ w.heap.size ≤ b ∧ MapAt w' ekS evP b L ∧ RdP w' L (PL l) ∧ Pu w w' := by
  refine F54_calls s w _ ?_
  refine alE_intro fun w1 hw1 => ?_
  have hp1 : Pu w w1 := by rw [hw1]; exact Pu.alloc w _
  have hm1 : MapAt w1 ekS evP w.heap.size [] := by rw [hw1]; exact MapAt.new w ekS evP
  have hlen := hl.len
  have hl32 := hF.len
  refine loopUp l.length (fun k t w' => Pu w w' ∧ t = (k : Int) ∧ ∃ L, MapAt w' ekS evP w.heap.size L ∧ RdP w L (PL (l.take k))) ⟨hp1, rfl, [], hm1, trivial⟩ ?_
  rintro k J t w2 hk ⟨hp2, rfl, L, hM2, hR2⟩ hJ
  refine Br.of (fun hlt => ?_) (fun hge => ?_)
  · have hlt' : k < l.length := by have := dtrue hlt; omega
    obtain ⟨m, hm⟩ := at_k hlt'
    have hmem := List.mem_of_getElem? hm
    obtain ⟨a, p, z, c, ha, hi, hM, c0, c1, c2, c3, c4⟩ := modAt hl hm
    refine ⟨a, ha, by omega, by omega, m.name, by simpa using hp2.cell c0, m.ov, by simpa using hp2.cell c1, p, by simpa using hp2.cell c2, z, by simpa using hp2.cell c3, c, by simpa using hp2.cell c4, ?_⟩
    refine boxA (by rfl) (by kernel_rfl) (by rfl) fun w3 hp3 hs3 hb3 => ?_
    have hwlt := hM2.lt
    refine ⟨p, by rw [add_def, cell_blk hb3]; rfl, ?_⟩
    have hpl := hM.procs.len
    have hcl := hM.calls.len
    have hcp := hF.callsL m hmem
    have hple := procs_le hmem
    have hp100 := hF.procs
    refine loopUp m.procs.length (fun j t w' => Pu w w' ∧ t = (j : Int) ∧ w'.heap[w2.heap.size]? = some (.cells #[.string m.name, .int .i64 m.ov, .slice p.a p.len p.cap, .slice z.a z.len z.cap, .slice c.a c.len c.cap] 33) ∧ ∃ L, MapAt w' ekS evP w.heap.size L ∧ RdP w L (PL (l.take k) ++ (rowsOf m).take j))
      ⟨hp2.trans hp3, rfl, hb3, L, hM2.pu hp3, by simpa using hR2⟩ ?_
    rintro j J2 t w4 hj ⟨hp4, rfl, hb4, L4, hM4, hR4⟩ hJ2
    refine Br.of (fun hlt2 => ?_) (fun hge2 => ?_)
    · have hlt2' : j < m.procs.length := by have := dtrue hlt2; omega
      obtain ⟨x, hx⟩ := at_k hlt2'
      obtain ⟨cs, hcs⟩ := at_k (l := m.calls) (k := j) (by omega)
      obtain ⟨a2, ha2, hi2, hc2⟩ := (hM.procs.pu hp4).str hx
      refine ⟨a2, ha2, by omega, by omega, x, by simpa using hc2, ?_⟩
      refine dwE_intro fun w5 hp5 hh5 => ?_
      have hb5 := hp5.blk hb4
      obtain ⟨a3, t3, ha3, hi3, hc3, ht3⟩ := listAt hM.calls hcs
      refine ⟨m.ov, by rw [add_def, cell_blk hb5]; rfl, c, by rw [add_def, cell_blk hb5]; rfl, a3, ha3, by omega, by omega, t3, by simpa using (hp4.trans hp5).cell hc3, ?_⟩
      obtain ⟨w6, hu6, hM6, hf6, hs6⟩ := (hM4.pu hp5).upd K9 u57 x (m.ov, t3)
      refine ⟨w6, hu6, ?_⟩
      have hP6 : Pu w w6 := Pu.andNew (hp4.trans hp5) hf6 fun i hi => by omega
      have hb6 := hf6.blk hb5 fun hx => by omega
      have hnew : AL.get L4 x = none := by
        rw [AL.get_none, hR4.keys, List.map_append, List.map_take, rows_keys hcp, PL_keys (fun m hm => hF.callsL m (List.mem_of_mem_take hm))]
        have hn := nodup_take hF.nodup (k := k + 1)
        rw [allProcs_take hm] at hn
        exact not_mem_before hn hx
      rw [AL.put_new hnew] at hM6
      show J2 _ _
      rw [wrap_in (by omega) (by omega)]
      refine hJ2 _ _ hlt2' ⟨hP6, rfl, hb6, _, hM6, ?_⟩
      rw [rows_at hx hcs, ← List.append_assoc]
      exact RdP.snoc ht3 hR4
    · have hge2' : ¬ j < m.procs.length := by have := dfalse hge2; omega
      show J _ _
      rw [wrap_in (by omega) (by omega)]
      have hte := take_end (l := rowsOf m) (k := j) (by rw [rows_len hcp]; omega) (by rw [rows_len hcp]; omega)
      rw [hte] at hR4
      exact hJ _ _ hlt' ⟨hp4, rfl, L4, hM4, by rw [PL_take hm]; exact hR4⟩
  · have hge' : ¬ k < l.length := by have := dfalse hge; omega
    rw [take_end hk hge'] at hR2
    exact ⟨_, L, rfl, Nat.le_refl _, hM2, hR2.pu hp2, hp2⟩
end Go.Proofs.Ytcnenlmhbpijlaa
