import Derived.Test.YtcnenlmhbpijlaaLkK
/- Link: overlays do not matter for which walks are right. No program in sight, but for the last parts: rows of modules. No condition. -/
set_option maxRecDepth 100000
set_option linter.unusedVariables false
set_option linter.unusedSimpArgs false
namespace Go.Proofs.Ytcnenlmhbpijlaa
open Go.Sh Go.RowKit

def setO (o : Int) (m : Mod) : Mod := { m with ov := o }
def setD (o : Int) (q : PDat) : PDat := (q.1, o, q.2.2)
theorem PL_set (o : Int) (l : List Mod) : PL (l.map (setO o)) = (PL l).map (setD o) := by
  induction l with
  | nil => rfl
  | cons m r ih =>
    simp only [PL, List.map_cons, List.flatMap_cons, List.map_append] at ih ⊢
    rw [ih]
    congr 1
    simp [rowsOf, setO, setD]
theorem get_set (o : Int) (x : ByteArray) : ∀ (D : List PDat), AL.get (D.map (setD o)) x = (AL.get D x).map fun p => (o, p.2)
  | [] => rfl
  | (a, b, c) :: r => by
    simp only [List.map_cons, setD, AL.get]
    by_cases h : a = x
    · simp [h]
    · simp only [h, if_false]; exact get_set o x r
theorem isIn_set (o : Int) (D : List PDat) (x : ByteArray) : isIn (D.map (setD o)) x = isIn D x := by
  unfold isIn; rw [get_set]; cases AL.get D x <;> rfl
theorem getD_set (o : Int) (D : List PDat) (x : ByteArray) : getD (D.map (setD o)) x = (if isIn D x then o else 0, (getD D x).2) := by
  unfold getD isIn; rw [get_set]; cases AL.get D x <;> rfl
theorem missL_set (o : Int) (D : List PDat) : missL (D.map (setD o)) = missL D := by
  unfold missL
  have h : (fun c => !isIn (D.map (setD o)) c) = fun c => !isIn D c := funext fun c => by rw [isIn_set]
  rw [h, List.flatMap_map]
  rfl
theorem large_set (o : Int) (l : List Mod) : largeB (l.map (setO o)) = largeB l := by
  unfold largeB nprocs
  rw [List.any_map, List.length_map, List.map_map]; rfl
theorem valid_set {o : Int} (h0 : 0 ≤ o) (h1 : o ≤ 15) {l : List Mod} (h : validS l = 0) : validS (l.map (setO o)) = 0 := by
  have hF := fits_of h
  have hl : largeB l = false := by
    unfold validS at h
    split at h
    · cases h
    · rename_i h2; simpa using h2
  have e1 : (l.map (setO o)).all rightB = true := by
    rw [List.all_map, List.all_eq_true]
    intro m hm
    have := hF.right m hm
    simp only [rightB, Bool.and_eq_true, decide_eq_true_eq, Function.comp, setO] at this ⊢
    exact ⟨⟨⟨⟨⟨this.1.1.1.1.1, decide_eq_true h0⟩, decide_eq_true h1⟩, this.1.1.2⟩, this.1.2⟩, this.2⟩
  have e2 : (l.map (setO o)).all fitB = true := by
    rw [List.all_map, List.all_eq_true]
    intro m hm
    simp [fitB, Function.comp, setO, hF.sizes m hm, hF.callsL m hm]
  have e3 : (l.map (setO o)).map (·.name) = l.map (·.name) := by rw [List.map_map]; rfl
  have e4 : allProcs (l.map (setO o)) = allProcs l := by unfold allProcs; rw [List.flatMap_map]; rfl
  unfold validS
  rw [large_set, hl, e1, e2, e3, e4]
  simp [hF.names, hF.nodup]
theorem from_set {o : Int} (h0 : 0 ≤ o) (h1 : o ≤ 15) {l : List Mod} (h : validS l = 0) (name : ByteArray) : fromE (l.map (setO o)) name = fromE l name := by
  have hv := valid_set h0 h1 h
  unfold fromE openE missS
  rw [h, hv, PL_set, missL_set, isIn_set]

/-- Which walks are right hangs on what is called alone. -/
theorem walk_same {D D' : List PDat} (h : ∀ x, (getD D x).2 = (getD D' x).2) : ∀ (walk : List ByteArray) (stk : List ByteArray) (r r' : Int × Int), (walkS D stk r walk).isNone = (walkS D' stk r' walk).isNone
  | [], stk, r, r' => by cases stk <;> rfl
  | s :: ws, [], r, r' => rfl
  | s :: ws, top :: rest, r, r' => by
    rw [walkS_cons, walkS_cons, h top]
    split
    · cases rest with
      | nil => rfl
      | cons t2 r2 => exact walk_same h ws _ _ _
    · split
      · exact walk_same h ws _ _ _
      · rfl
/-- A room that is never left. -/
theorem walk_stays {D : List PDat} {r : Int × Int} (h : ∀ x, enterR (getD D x).1 r = r) : ∀ (walk : List ByteArray) (stk : List ByteArray) {r' : Int × Int}, walkS D stk r walk = some r' → r' = r
  | [], stk, r', he => by cases stk <;> simp [walkS] at he <;> exact he.symm
  | s :: ws, [], r', he => by simp [walkS] at he
  | s :: ws, top :: rest, r', he => by
    rw [walkS_cons] at he
    split at he
    · cases rest with
      | nil => cases he
      | cons t2 r2 =>
        simp only [h] at he
        exact walk_stays h ws _ he
    · split at he
      · rw [h] at he; exact walk_stays h ws _ he
      · cases he

theorem loads_err {l : List Mod} {name : ByteArray} {walk : List ByteArray} (h : (loadsS l name walk).2 ≠ 0) : (loadsS l name walk).1 = 0 := by
  unfold loadsS at h ⊢
  split
  · split
    · rfl
    · split
      · rename_i h1 h2 _ r h3
        rw [if_pos h1, if_neg h2, h3] at h
        exact absurd rfl h
      · rfl
  · rfl
theorem root_zero (l : List Mod) (name : ByteArray) (walk : List ByteArray) : (loadsS (l.map (setO 0)) name walk).1 = 0 := by
  unfold loadsS
  split
  · split
    · rfl
    · have hall : ∀ x, enterR (getD (PL (l.map (setO 0))) x).1 (0, 0) = (0, 0) := fun x => by
        rw [PL_set, getD_set]; simp [enterR]
      rw [hall]
      split
      · rename_i r hr
        rw [walk_stays hall _ _ hr]
      · rfl
  · rfl
theorem one_one (l : List Mod) (name : ByteArray) (walk : List ByteArray) : (loadsS (l.map (setO 1)) name walk).1 ≤ 1 ∧ ((loadsS (l.map (setO 1)) name walk).2 = 0 → (loadsS (l.map (setO 1)) name walk).1 = 1) := by
  unfold loadsS
  split
  · rename_i hf
    obtain ⟨_, hin⟩ := from_open hf
    split
    · simp
    · have hall : ∀ x, enterR (getD (PL (l.map (setO 1))) x).1 (1, 1) = (1, 1) := fun x => by
        rw [PL_set, getD_set]
        simp only
        split <;> simp [enterR]
      have h1 : enterR (getD (PL (l.map (setO 1))) name).1 (0, 0) = (1, 1) := by
        rw [PL_set, isIn_set] at hin
        rw [PL_set, getD_set, hin]; simp [enterR]
      rw [h1]
      split
      · rename_i r hr
        rw [walk_stays hall _ _ hr]; simp
      · simp
  · rename_i hf
    exact ⟨by simp, fun h => absurd h hf⟩
theorem err_set {o : Int} (h0 : 0 ≤ o) (h1 : o ≤ 15) {l : List Mod} (h : validS l = 0) (name : ByteArray) (walk : List ByteArray) : (loadsS (l.map (setO o)) name walk).2 = (loadsS l name walk).2 := by
  unfold loadsS
  rw [from_set h0 h1 h]
  split
  · split
    · rfl
    · have := walk_same (D := PL (l.map (setO o))) (D' := PL l) (fun x => by rw [PL_set, getD_set]) walk [name] (enterR (getD (PL (l.map (setO o))) name).1 (0, 0)) (enterR (getD (PL l) name).1 (0, 0))
      cases h2 : walkS (PL (l.map (setO o))) [name] (enterR (getD (PL (l.map (setO o))) name).1 (0, 0)) walk <;> cases h3 : walkS (PL l) [name] (enterR (getD (PL l) name).1 (0, 0)) walk <;> rw [h2, h3] at this <;> first | rfl | cases this
  · rfl

/-! ### Rows of modules -/
theorem flat_at {α β : Type} {f : α → List β} {n : Nat} (hf : ∀ x, (f x).length = n) : ∀ {l : List α} {i : Nat} {x : α} {j : Nat} {v : β}, l[i]? = some x → (f x)[j]? = some v → (l.flatMap f)[i * n + j]? = some v
  | [], i, x, j, v, h, _ => by simp at h
  | y :: r, 0, x, j, v, h, hv => by
    simp at h
    subst h
    have hj : j < (f y).length := (List.getElem?_eq_some_iff.1 hv).1
    rw [List.flatMap_cons, Nat.zero_mul, Nat.zero_add, List.getElem?_append_left hj]; exact hv
  | y :: r, i + 1, x, j, v, h, hv => by
    have h : r[i]? = some x := by simpa using h
    rw [List.flatMap_cons, List.getElem?_append_right (by rw [hf]; rw [Nat.succ_mul]; omega), hf, show (i + 1) * n + j - n = i * n + j by rw [Nat.succ_mul]; omega]
    exact flat_at hf h hv
theorem add_twice (a : Addr) (i j : Nat) : (a.add i).add j = a.add (i + j) := by
  unfold Addr.add
  by_cases hi : i = 0 <;> by_cases hj : j = 0 <;> simp [hi, hj, Nat.add_assoc]
structure MRow where
  m : Mod
  p : SV
  z : SV
  c : SV
def MRow.cells (r : MRow) : List Value := modV r.m r.p r.z r.c
theorem rd_of_mods {w : World} {s : SV} {rows : List MRow} (h : RowAt w 33 5 s (rows.flatMap MRow.cells)) (hr : ∀ r ∈ rows, RdMod w r.m r.p r.z r.c) (hl : rows.length ≤ 140737488355328) : RdSl w s (rows.map (·.m)) := by
  have hfl : (rows.flatMap MRow.cells).length = rows.length * 5 := by
    clear h hr hl
    induction rows with
    | nil => rfl
    | cons r rs ih => rw [List.flatMap_cons, List.length_append, ih]; simp [MRow.cells]; omega
  have hlen : s.len = rows.length := by have := h.1; omega
  refine ⟨by simp [hlen], h.le_cap.1, by omega, fun i x hx => ?_⟩
  rw [List.getElem?_map] at hx
  obtain ⟨r, hr', rfl⟩ := Option.map_eq_some_iff.1 hx
  have hmem := List.mem_of_getElem? hr'
  obtain ⟨a, ha, _, _⟩ := h.cell (j := i * 5 + 0) (v := .string r.m.name) (flat_at (f := MRow.cells) (n := 5) (fun _ => rfl) hr' rfl)
  refine ⟨a, ha, r.cells, ⟨r.p, r.z, r.c, rfl, hr r hmem⟩, fun j v hv => ?_⟩
  obtain ⟨a', ha', hc, _⟩ := h.cell (j := i * 5 + j) (v := v) (flat_at (f := MRow.cells) (n := 5) (fun _ => rfl) hr' hv)
  rw [ha] at ha'; cases ha'
  rw [add_twice]
  exact hc
theorem u22 : Try.prog.underlying 22 = some (.slice 33) := by kernel_rfl
theorem info33 : (Try.prog.info? 33).map (fun i => (i.zero, i.size, i.bytes)) = some (some (.agg #[.string ⟨#[]⟩, .int .i64 0, .slice none 0 0, .slice none 0 0, .slice none 0 0]), 5, 96) := by kernel_rfl
/-- A module appended. -/
theorem row_push_mod {w : World} {s : SV} {vs : List Value} (h : RowAt w 33 5 s vs) {a : Addr} (r : MRow) (hc : ∀ j v, r.cells[j]? = some v → w.cell? (a.add j) = some v) (hb : s.len ≤ 1000000000) :
    ∃ (s' : SV) (w' : World), (Builtin.append_ #[22, 22] 22 #[.slice s.a s.len s.cap, .slice (some a) 1 1]).run Try.prog w = .ok (.slice s'.a s'.len s'.cap) w' ∧ RowAt w' 33 5 s' (vs ++ r.cells) ∧ Fr (· ∈ blkOf s) w w' ∧ (∀ k ∈ blkOf s', k ∈ blkOf s ∨ w.heap.size ≤ k) ∧ s'.len = s.len + 1 := by
  obtain ⟨i, h1, h2, h3, h4⟩ := info_parts info33
  exact row_append (P := Try.prog) u22 h1 h2 h3 rfl (by decide) h (m := 1) (c := 1) (news := r.cells) rfl hc (fun v hv => by
    simp only [MRow.cells, modV, List.mem_cons, List.not_mem_nil, or_false] at hv
    rcases hv with rfl | rfl | rfl | rfl | rfl <;> rfl) (by rw [h4]; omega)
end Go.Proofs.Ytcnenlmhbpijlaa
