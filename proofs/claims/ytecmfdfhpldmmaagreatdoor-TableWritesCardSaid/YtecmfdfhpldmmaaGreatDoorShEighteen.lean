/- Plain laws: texts in their order, sorted; runs of equal texts as one; the set of a list. No program in sight. -/
import Derived.Test.YtecmfdfhpldmmaaGreatDoorShSeventeen
import Derived.Lib.SlicesCompact
set_option linter.unusedVariables false
set_option linter.unusedSimpArgs false
namespace Go.Sh

theorem bytes_ext {a b : ByteArray} (h : a.data.toList = b.data.toList) : a = b := by
  cases a; cases b
  simp only at h
  congr 1
  exact Array.toList_inj.1 h
def bLe (a b : ByteArray) : Bool := decide (a.data.toList ≤ b.data.toList)
def bLt (a b : ByteArray) : Bool := decide (a.data.toList < b.data.toList)
theorem bLe_trans (a b c : ByteArray) (h : bLe a b = true) (k : bLe b c = true) : bLe a c = true := decide_eq_true (List.le_trans (of_decide_eq_true h) (of_decide_eq_true k))
theorem bLe_total (a b : ByteArray) : (bLe a b || bLe b a) = true := by
  rcases List.le_total a.data.toList b.data.toList with h | h
  · simp [bLe, h]
  · simp [bLe, h]
theorem bLe_antisymm {a b : ByteArray} (h : bLe a b = true) (k : bLe b a = true) : a = b := bytes_ext (List.le_antisymm (of_decide_eq_true h) (of_decide_eq_true k))
theorem bLe_refl (a : ByteArray) : bLe a a = true := by have := bLe_total a a; simpa using this
theorem bLt_iff {a b : ByteArray} : bLt a b = true ↔ bLe b a = false := by
  simp only [bLt, bLe, decide_eq_true_eq, decide_eq_false_iff_not]
  exact ⟨fun h k => k h, fun h => Classical.byContradiction fun k => h k⟩
theorem bLt_le {a b : ByteArray} (h : bLt a b = true) : bLe a b = true := by
  have := bLe_total a b
  rw [bLt_iff.1 h, Bool.or_false] at this
  exact this
theorem bLt_ne {a b : ByteArray} (h : bLt a b = true) : a ≠ b := fun e => by
  subst e
  have := bLt_iff.1 h
  rw [bLe_refl] at this
  cases this
theorem bLt_of {a b : ByteArray} (h : bLe a b = true) (hn : a ≠ b) : bLt a b = true := by
  rw [bLt_iff]
  cases hb : bLe b a with
  | false => rfl
  | true => exact absurd (bLe_antisymm h hb) hn
theorem bLt_trans {a b c : ByteArray} (h : bLt a b = true) (k : bLe b c = true) : bLt a c = true := by
  refine bLt_of (bLe_trans a b c (bLt_le h) k) fun e => ?_
  subst e
  exact bLt_ne h (bLe_antisymm (bLt_le h) k)
theorem bLt_trans' {a b c : ByteArray} (h : bLe a b = true) (k : bLt b c = true) : bLt a c = true := by
  refine bLt_of (bLe_trans a b c h (bLt_le k)) fun e => ?_
  subst e
  exact bLt_ne k (bLe_antisymm (bLt_le k) h)

def srt (l : List ByteArray) : List ByteArray := l.mergeSort bLe
theorem srt_perm (l : List ByteArray) : (srt l).Perm l := List.mergeSort_perm l bLe
theorem srt_sorted (l : List ByteArray) : (srt l).Pairwise (fun a b => bLe a b = true) := List.pairwise_mergeSort bLe_trans bLe_total l
theorem srt_length (l : List ByteArray) : (srt l).length = l.length := List.length_mergeSort l
theorem mem_srt {l : List ByteArray} {x : ByteArray} : x ∈ srt l ↔ x ∈ l := (srt_perm l).mem_iff

/-- Runs of equal texts as one. -/
def cptFrom : Option ByteArray → List ByteArray → List ByteArray
  | _, [] => []
  | p, x :: r => if p = some x then cptFrom p r else x :: cptFrom (some x) r
def cpt (l : List ByteArray) : List ByteArray := cptFrom none l
def setS (l : List ByteArray) : List ByteArray := cpt (srt l)

theorem cptFrom_snoc (x : ByteArray) : ∀ (l : List ByteArray) (p : Option ByteArray), cptFrom p (l ++ [x]) = cptFrom p l ++ (if (match l.getLast? with | some y => some y | none => p) = some x then [] else [x])
  | [], p => by by_cases h : p = some x <;> simp [cptFrom, h]
  | y :: r, p => by
    simp only [List.cons_append, cptFrom]
    have hl : ∀ q : Option ByteArray, (match (y :: r).getLast? with | some z => some z | none => q) = (match r.getLast? with | some z => some z | none => some y) := fun q => by
      cases r with
      | nil => rfl
      | cons z r => rw [List.getLast?_cons_cons]; cases h : (z :: r).getLast? with
        | none => simp at h
        | some v => rfl
    rw [hl]
    split
    · rename_i h
      subst h
      exact cptFrom_snoc x r (some y)
    · rw [cptFrom_snoc x r (some y)]; rfl
theorem cpt_take {l : List ByteArray} {k : Nat} {x : ByteArray} (h : l[k]? = some x) : cpt (l.take (k + 1)) = cpt (l.take k) ++ (if k ≠ 0 ∧ l[k - 1]? = some x then [] else [x]) := by
  have hk : k < l.length := (List.getElem?_eq_some_iff.1 h).1
  rw [show l.take (k + 1) = l.take k ++ [x] by rw [List.take_add_one, h]; rfl]
  unfold cpt
  rw [cptFrom_snoc]
  congr 1
  cases k with
  | zero => simp
  | succ k =>
    have hl : (l.take (k + 1)).getLast? = l[k]? := by
      rw [List.getLast?_eq_getElem?, List.length_take, Nat.min_eq_left (by omega), List.getElem?_take_of_lt (by omega)]; rfl
    rw [hl]
    obtain ⟨y, hy⟩ : ∃ y, l[k]? = some y := ⟨_, List.getElem?_eq_getElem (by omega)⟩
    simp [hy]

theorem mem_cptFrom {x : ByteArray} : ∀ {l : List ByteArray} {p : Option ByteArray}, x ∈ cptFrom p l → x ∈ l
  | [], _, h => by simp [cptFrom] at h
  | y :: r, p, h => by
    simp only [cptFrom] at h
    split at h
    · exact List.mem_cons_of_mem _ (mem_cptFrom h)
    · rcases List.mem_cons.1 h with rfl | h
      · exact List.mem_cons_self
      · exact List.mem_cons_of_mem _ (mem_cptFrom h)
theorem cptFrom_mem {x : ByteArray} : ∀ {l : List ByteArray} {p : Option ByteArray}, x ∈ l → p = some x ∨ x ∈ cptFrom p l
  | [], _, h => by simp at h
  | y :: r, p, h => by
    simp only [cptFrom]
    split
    · rename_i hp
      rcases List.mem_cons.1 h with rfl | h
      · exact .inl hp
      · exact cptFrom_mem h
    · rcases List.mem_cons.1 h with rfl | h
      · exact .inr List.mem_cons_self
      · rcases cptFrom_mem (p := some y) h with e | e
        · exact .inr (by rw [Option.some.inj e]; exact List.mem_cons_self)
        · exact .inr (List.mem_cons_of_mem _ e)
theorem mem_cpt {l : List ByteArray} {x : ByteArray} : x ∈ cpt l ↔ x ∈ l := ⟨mem_cptFrom, fun h => (cptFrom_mem h).resolve_left (by simp)⟩
theorem mem_setS {l : List ByteArray} {x : ByteArray} : x ∈ setS l ↔ x ∈ l := mem_cpt.trans mem_srt

theorem cptFrom_sorted : ∀ {l : List ByteArray} {p : Option ByteArray}, l.Pairwise (fun a b => bLe a b = true) → (∀ y, p = some y → ∀ x ∈ l, bLe y x = true) →
    (cptFrom p l).Pairwise (fun a b => bLt a b = true) ∧ ∀ y, p = some y → ∀ x ∈ cptFrom p l, bLt y x = true
  | [], _, _, _ => ⟨.nil, fun _ _ x h => by simp [cptFrom] at h⟩
  | z :: r, p, hs, hp => by
    obtain ⟨h1, h2⟩ := List.pairwise_cons.1 hs
    simp only [cptFrom]
    split
    · rename_i e
      exact cptFrom_sorted h2 fun y hy x hx => hp y hy x (List.mem_cons_of_mem _ hx)
    · rename_i hne
      obtain ⟨a, b⟩ := cptFrom_sorted (p := some z) h2 fun y hy x hx => by cases hy; exact h1 x hx
      refine ⟨List.pairwise_cons.2 ⟨b z rfl, a⟩, fun y hy x hx => ?_⟩
      have hyz : bLt y z = true := bLt_of (hp y hy z List.mem_cons_self) fun e => hne (by rw [hy, e])
      rcases List.mem_cons.1 hx with rfl | hx
      · exact hyz
      · exact bLt_trans hyz (bLt_le (b z rfl x hx))
theorem setS_sorted (l : List ByteArray) : (setS l).Pairwise (fun a b => bLt a b = true) := (cptFrom_sorted (srt_sorted l) (fun _ h => by cases h)).1
theorem pair_nodup {l : List ByteArray} (h : l.Pairwise (fun a b => bLt a b = true)) : l.Nodup := h.imp fun h => bLt_ne h
theorem setS_nodup (l : List ByteArray) : (setS l).Nodup := pair_nodup (setS_sorted l)
/-- A list that ascends is known by its members. -/
theorem asc_ext : ∀ {l l' : List ByteArray}, l.Pairwise (fun a b => bLt a b = true) → l'.Pairwise (fun a b => bLt a b = true) → (∀ x, x ∈ l ↔ x ∈ l') → l = l'
  | [], [], _, _, _ => rfl
  | [], y :: _, _, _, h => by have := (h y).2 List.mem_cons_self; simp at this
  | x :: _, [], _, _, h => by have := (h x).1 List.mem_cons_self; simp at this
  | x :: r, y :: r', h1, h2, h => by
    obtain ⟨a1, b1⟩ := List.pairwise_cons.1 h1
    obtain ⟨a2, b2⟩ := List.pairwise_cons.1 h2
    have hxy : x = y := by
      rcases List.mem_cons.1 ((h x).1 List.mem_cons_self) with e | e
      · exact e
      · rcases List.mem_cons.1 ((h y).2 List.mem_cons_self) with e' | e'
        · exact e'.symm
        · have h3 := a2 x e
          have h4 := a1 y e'
          exact absurd (bLe_antisymm (bLt_le h4) (bLt_le h3)) (bLt_ne h4)
    subst hxy
    have hr : r = r' := asc_ext b1 b2 fun z => by
      have := h z
      simp only [List.mem_cons] at this
      constructor
      · intro hz
        rcases this.1 (.inr hz) with e | e
        · subst e; exact absurd rfl (bLt_ne (a1 z hz))
        · exact e
      · intro hz
        rcases this.2 (.inr hz) with e | e
        · subst e; exact absurd rfl (bLt_ne (a2 z hz))
        · exact e
    rw [hr]
theorem setS_ext {l l' : List ByteArray} (h : ∀ x, x ∈ l ↔ x ∈ l') : setS l = setS l' := asc_ext (setS_sorted l) (setS_sorted l') fun x => mem_setS.trans ((h x).trans mem_setS.symm)

theorem cptFrom_len : ∀ (l : List ByteArray) (p : Option ByteArray), (cptFrom p l).length ≤ l.length
  | [], _ => by simp [cptFrom]
  | y :: r, p => by
    simp only [cptFrom]
    split
    · have := cptFrom_len r p; simp only [List.length_cons]; omega
    · have := cptFrom_len r (some y); simp only [List.length_cons]; omega
theorem cptFrom_same_len : ∀ {l : List ByteArray} {p : Option ByteArray}, (cptFrom p l).length = l.length → cptFrom p l = l
  | [], _, _ => rfl
  | y :: r, p, h => by
    simp only [cptFrom] at h ⊢
    split at h
    · have := cptFrom_len r p; simp only [List.length_cons] at h; omega
    · rename_i hne
      rw [if_neg hne]
      simp only [List.length_cons, Nat.add_right_cancel_iff] at h
      rw [cptFrom_same_len h]
theorem cptFrom_same : ∀ {l : List ByteArray} {p : Option ByteArray}, l.Nodup → (∀ y, p = some y → y ∉ l) → cptFrom p l = l
  | [], _, _, _ => rfl
  | z :: r, p, hn, hp => by
    obtain ⟨h1, h2⟩ := List.nodup_cons.1 hn
    simp only [cptFrom]
    rw [if_neg (fun e => hp z e List.mem_cons_self), cptFrom_same h2 fun y hy => by cases hy; exact h1]
theorem setS_len (l : List ByteArray) : decide ((setS l).length < l.length) = !decide l.Nodup := by
  by_cases h : l.Nodup
  · rw [decide_eq_true h]
    have : (srt l).Nodup := (srt_perm l).nodup_iff.2 h
    have e : setS l = srt l := cptFrom_same this (fun _ h => by cases h)
    rw [e, srt_length]
    simp
  · rw [decide_eq_false h]
    apply decide_eq_true
    have h1 : (setS l).length ≤ l.length := by have := cptFrom_len (srt l) none; rw [srt_length] at this; exact this
    rcases Nat.lt_or_ge (setS l).length l.length with h2 | h2
    · exact h2
    · exfalso
      have h3 : (setS l).length = l.length := by omega
      apply h
      have e : setS l = srt l := cptFrom_same_len (by rw [srt_length]; exact h3)
      have hn := setS_nodup l
      rw [e] at hn
      exact (srt_perm l).nodup_iff.1 hn

/-! ### The library's words -/
open Go.Lib in
theorem compact_eq (l : List ByteArray) : (compact (l.map fun s => s.data.toList)).map (fun t => (⟨t.toArray⟩ : ByteArray)) = cpt l := by
  have key : ∀ m, m ≤ l.length → (compactUpTo (l.map fun s => s.data.toList).toArray m).map (fun t => (⟨t.toArray⟩ : ByteArray)) = cpt (l.take m) := by
    intro m
    induction m with
    | zero => intro _; simp [compactUpTo, cpt, cptFrom]
    | succ m ih =>
      intro hm
      obtain ⟨x, hx⟩ : ∃ x, l[m]? = some x := ⟨_, List.getElem?_eq_getElem (by omega)⟩
      rw [compactUpTo_succ, List.map_append, ih (by omega), cpt_take hx]
      congr 1
      have hd : ∀ (j : Nat) (y : ByteArray), l[j]? = some y → (l.map fun s => s.data.toList).toArray[j]! = y.data.toList := fun j y hy => by
        have hj : j < l.length := (List.getElem?_eq_some_iff.1 hy).1
        rw [getElem!_pos _ j (by simpa using hj)]
        have : l[j] = y := (List.getElem?_eq_some_iff.1 hy).2
        simp [this]
      have e1 := hd m x hx
      by_cases h0 : m = 0
      · subst h0
        have : keeps (l.map fun s => s.data.toList).toArray 0 = true := keeps_lt_one _ 0 (by omega)
        rw [this, if_pos rfl, e1]
        simp
      · obtain ⟨y, hy⟩ : ∃ y, l[m - 1]? = some y := ⟨_, List.getElem?_eq_getElem (by omega)⟩
        have e2 := hd (m - 1) y hy
        by_cases hxy : x = y
        · subst hxy
          rw [keeps_neg (by omega) (by rw [e1, e2])]
          simp [h0, hy]
        · rw [keeps_pos (by rw [e1, e2]; exact fun e => hxy (bytes_ext e)), e1]
          have : ¬ (y = x) := fun e => hxy e.symm
          simp [hy, this]
  have := key l.length (Nat.le_refl _)
  rw [List.take_length] at this
  unfold compact
  rw [List.length_map]
  exact this
end Go.Sh
