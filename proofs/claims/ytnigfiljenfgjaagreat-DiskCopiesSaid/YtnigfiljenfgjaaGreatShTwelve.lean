import Derived.Test.YtnigfiljenfgjaaGreatShEleven
import Derived.Laws.StructEq
/- Keys that are structs of strings and numbers. For every program. -/
set_option linter.unusedSectionVars false
set_option linter.unusedSimpArgs false
namespace Go.Sh
open Go.RowKit
variable {P : Program}
/-- The kind of a cell: a string, or a number. -/
def kindOf : Value → Option (Option IntKind)
  | .string _ => some none
  | .int k _ => some (some k)
  | _ => none
def isStr : Option TypeDesc → Bool
  | some .string => true
  | _ => false
def intOf : Option TypeDesc → Option IntKind
  | some (.int q) => some q
  | _ => none
def scalB (P : Program) (t : TypeId) : Option IntKind → Bool
  | none => isStr (P.underlying t)
  | some q => intOf (P.underlying t) == some q
def fieldsB (P : Program) : List Field → Nat → List (Option IntKind) → Bool
  | [], _, [] => true
  | f :: fs, j, k :: ks => !(f.name == "_") && Nat.beq f.offset j && !aggB P f.type && scalB P f.type k && fieldsB P fs (j + 1) ks
  | _, _, _ => false
theorem isStr_spec {d : Option TypeDesc} (h : isStr d = true) : d = some .string := by unfold isStr at h; split at h <;> simp_all
theorem intOf_spec {d : Option TypeDesc} {q : IntKind} (h : intOf d = some q) : d = some (.int q) := by unfold intOf at h; split at h <;> simp_all
theorem run_part_one {t : TypeId} {cs : Array Value} {o : Nat} {v : Value} {w : World} (ha : aggB P t = false) (hu : (P.underlying t).isSome = true) (hv : cs[o]? = some v) : (part t cs o).run P w = .ok v w := by
  obtain ⟨d, hd⟩ := Option.isSome_iff_exists.1 hu
  have h1 : (isAgg t).run P w = .ok false w := by
    rw [← ha]
    simp only [isAgg, Sem.run_bind, run_under hd, Result.andThen_ok, aggB, hd]
    cases d <;> rfl
  simp [part, h1, hv]
theorem eqFields_spec (d : Nat) (xs ys : Array Value) (w : World) : ∀ (fs : List Field) (j : Nat) (ks : List (Option IntKind)) (xl yl : List Value), fieldsB P fs j ks = true → xl.map kindOf = ks.map some → yl.map kindOf = ks.map some →
    (∀ i, xs[j + i]? = xl[i]?) → (∀ i, ys[j + i]? = yl[i]?) → ∃ b, (Op.eqFields (d + 1) xs ys fs).run P w = .ok b w ∧ (b = true ↔ xl = yl)
  | [], j, [], xl, yl, _, hx, hy, _, _ => by
    simp at hx hy; subst hx; subst hy
    exact ⟨true, rfl, by simp⟩
  | f :: fs, j, k :: ks, xl, yl, h, hx, hy, hxs, hys => by
    simp only [fieldsB, Bool.and_eq_true, Bool.not_eq_true'] at h
    obtain ⟨⟨⟨⟨h1, h2⟩, h3⟩, h4⟩, h5⟩ := h
    have h2 := Nat.eq_of_beq_eq_true h2
    cases xl with
    | nil => simp at hx
    | cons x xl => cases yl with
      | nil => simp at hy
      | cons y yl =>
        simp only [List.map_cons, List.cons.injEq] at hx hy
        have hx0 := hxs 0; have hy0 := hys 0
        simp only [Nat.add_zero, List.getElem?_cons_zero] at hx0 hy0
        obtain ⟨b, hb, hbi⟩ := eqFields_spec d xs ys w fs (j + 1) ks xl yl h5 hx.2 hy.2 (fun i => by have := hxs (i + 1); rw [List.getElem?_cons_succ] at this; rw [← this]; congr 1; omega) (fun i => by have := hys (i + 1); rw [List.getElem?_cons_succ] at this; rw [← this]; congr 1; omega)
        have hn : ¬ f.name = "_" := by simpa using h1
        have key : ∃ r, (Op.equalIn (d + 1) f.type x y).run P w = .ok r w ∧ (r = true ↔ x = y) ∧ (P.underlying f.type).isSome = true := by
          cases k with
          | none =>
            have hu := isStr_spec h4
            have hxk := hx.1; have hyk := hy.1
            cases x <;> simp [kindOf] at hxk
            cases y <;> simp [kindOf] at hyk
            refine ⟨_, by simp [Op.equalIn, run_under hu]; rfl, ?_, by rw [hu]; rfl⟩
            rw [beq_bytes]; simp
          | some q =>
            have hu := intOf_spec (by simpa [scalB] using h4)
            have hxk := hx.1; have hyk := hy.1
            cases x <;> simp [kindOf] at hxk
            cases y <;> simp [kindOf] at hyk
            subst hxk; subst hyk
            exact ⟨_, by simp [Op.equalIn, run_under hu]; rfl, by simp, by rw [hu]; rfl⟩
        obtain ⟨r, hr, hri, hus⟩ := key
        simp only [Op.eqFields, hn, ne_eq, not_false_eq_true, if_true, Sem.run_bind, h2, run_part_one h3 hus hx0, run_part_one h3 hus hy0, Result.andThen_ok, hr]
        cases r with
        | true => exact ⟨b, by simpa using hb, by rw [hbi]; have := hri.1 rfl; subst this; simp⟩
        | false => exact ⟨false, by simp, by simp; exact fun e => absurd (hri.2 e) (by simp)⟩
theorem forIn_unit {α : Type} (f : α → Sem (ForInStep PUnit)) (w : World) : ∀ (l : List α), (∀ x ∈ l, (f x).run P w = .ok (.yield PUnit.unit) w) → (forIn l PUnit.unit (fun x _ => f x) : Sem PUnit).run P w = .ok PUnit.unit w
  | [], _ => by simp
  | x :: l, h => by
    simp only [List.forIn_cons, Sem.run_bind, h x (by simp), Result.andThen_ok]
    exact forIn_unit f w l fun y hy => h y (by simp [hy])
theorem fieldsB_mem {fs : List Field} {j : Nat} {ks : List (Option IntKind)} (h : fieldsB P fs j ks = true) {f : Field} (hf : f ∈ fs) : ¬ f.name = "_" ∧ aggB P f.type = false ∧ j ≤ f.offset ∧ f.offset < j + ks.length ∧
    ((P.underlying f.type = some .string) ∨ ∃ q, P.underlying f.type = some (.int q)) := by
  induction fs generalizing j ks with
  | nil => cases hf
  | cons a fs ih => cases ks with
    | nil => simp [fieldsB] at h
    | cons k ks =>
      simp only [fieldsB, Bool.and_eq_true, Bool.not_eq_true'] at h
      obtain ⟨⟨⟨⟨h1, h2⟩, h3⟩, h4⟩, h5⟩ := h
      have h2 := Nat.eq_of_beq_eq_true h2
      rcases List.mem_cons.1 hf with rfl | hf
      · refine ⟨by simpa using h1, h3, by omega, by simp; omega, ?_⟩
        cases k with
        | none => exact .inl (isStr_spec h4)
        | some q => exact .inr ⟨q, intOf_spec (by simpa [scalB] using h4)⟩
      · obtain ⟨a1, a2, a3, a4, a5⟩ := ih h5 hf
        exact ⟨a1, a2, by omega, by simp; omega, a5⟩
def structB (P : Program) (t : TypeId) (ks : List (Option IntKind)) : Bool := match P.underlying t with
  | some (.struct fs) => fieldsB P fs.toList 0 ks && !P.stoodInHeld t
  | _ => false
theorem sameBits_row : ∀ (l : List Value), (∀ v ∈ l, (kindOf v).isSome = true) → ((l.zip l).all fun p => Instr.sameBits 9999 p.1 p.2) = true
  | [], _ => rfl
  | v :: l, h => by
    simp only [List.zip_cons_cons, List.all_cons, Bool.and_eq_true]
    refine ⟨?_, sameBits_row l fun x hx => h x (by simp [hx])⟩
    have := h v (by simp)
    show Instr.sameBits (9998 + 1) v v = true
    cases v <;> simp [kindOf] at this <;> simp [Instr.sameBits, beq_bytes]
theorem keys_struct {κ : Type} [DecidableEq κ] {t : TypeId} {ks : List (Option IntKind)} {ek : κ → Value} {row : κ → List Value} (hs : structB P t ks = true) (hek : ∀ x, ek x = .agg (row x).toArray)
    (hk : ∀ x, (row x).map kindOf = ks.map some) (hinj : ∀ x y, row x = row y → x = y) : Keys P t ek := by
  unfold structB at hs
  split at hs
  case h_2 => cases hs
  rename_i fs hu
  simp only [Bool.and_eq_true, Bool.not_eq_true'] at hs
  obtain ⟨hf, hst⟩ := hs
  have hfo : P.fieldsOf t = fs := by simp [Program.fieldsOf, hu]
  refine ⟨fun e x w => ?_, ⟨_, hu, .inr ⟨fun x y => by simp [Instr.sameNow, hek], fun x y w => ?_⟩⟩, fun x => ?_⟩
  · rw [hek]
    show (Instr.checkKey e (9999 + 1) t _).run P w = _
    unfold Instr.checkKey
    simp only [Sem.run_bind, run_under hu, Result.andThen_ok]
    rw [← Array.forIn_toList]
    rw [forIn_unit (P := P) _ w _ fun f hmem => ?_]
    · simp
    obtain ⟨h1, h2, h3, h4, h5⟩ := fieldsB_mem hf hmem
    have hlen : (row x).length = ks.length := by simpa using congrArg List.length (hk x)
    obtain ⟨v, hv⟩ : ∃ v, (row x).toArray[f.offset]? = some v := ⟨_, Array.getElem?_eq_getElem (by simp; omega)⟩
    have hus : (P.underlying f.type).isSome = true := by rcases h5 with h | ⟨q, h⟩ <;> rw [h] <;> rfl
    have hc : (Instr.checkKey e 9999 f.type v).run P w = .ok () w := by
      show (Instr.checkKey e (9998 + 1) _ _).run P w = _
      unfold Instr.checkKey
      rcases h5 with h | ⟨q, h⟩ <;> simp [run_under h]
    simp [h1, run_part_one h2 hus hv, hc]
  · rw [hek, hek]
    show (Op.equalIn (9999 + 1) t _ _).run P w = _
    rw [run_equalIn_struct w 9999 t _ _ (by rw [hfo]; exact hu) hst, hfo]
    obtain ⟨b, hb, hbi⟩ := eqFields_spec (P := P) 9998 (row x).toArray (row y).toArray w fs.toList 0 ks (row x) (row y) hf (hk x) (hk y) (fun i => by simp) (fun i => by simp)
    rw [hb]
    congr 1
    by_cases hxy : x = y
    · subst hxy; simp [hbi]
    · have : ¬ row x = row y := fun h => hxy (hinj x y h)
      cases b with
      | true => exact absurd (hbi.1 rfl) this
      | false => simp [hxy]
  · rw [hek]
    show Instr.sameBits (9999 + 1) _ _ = true
    simp only [Instr.sameBits, beq_self_eq_true, Bool.true_and]
    refine sameBits_row _ fun v hv => ?_
    have : kindOf v ∈ (row x).map kindOf := List.mem_map.2 ⟨v, hv, rfl⟩
    rw [hk x] at this
    obtain ⟨q, _, hq⟩ := List.mem_map.1 this
    rw [← hq]; rfl
end Go.Sh
