import Derived.Test.YtcihcbfcgjepfaaGreatDoorShThree
/- Regions and code of the shallow semantics, and their soundness: 'ptE' gives a triple 'Tr' of the model's code; the rules by which triples are joined; a function's call. For every program. -/
namespace Go.Sh
variable {P : Program}
abbrev EP := Env -> List Deferred -> World -> Prop
abbrev EQ := Exit -> EP
theorem zJG {ρ : Env} {t : Nat} {v : Value} (h : ρ t = v) : zJ9 ρ t v = ρ := by
 funext u
 unfold zJ9
 cases hu : Nat.beq u t with
 | false => rfl
 | true => rw [Nat.eq_of_beq_eq_true hu]; exact h.symm
def zVP (ops : Array Oper) (o : Oper) (ρ : Env) (Y N : Env -> Prop) : Prop :=
 match o.guard with
 | none => Y ρ
 | some (j, want) => match (ops[j]?).bind (·.dst) with
  | none => False
  | some t => match ρ t with
   | .bool b => Br b (match want with | true => Y (zJ9 ρ t (.bool true)) | false => N (zJ9 ρ t (.bool true))) (match want with | true => N (zJ9 ρ t (.bool false)) | false => Y (zJ9 ρ t (.bool false)))
   | .tuple _ => N ρ
   | _ => False
def zJW (n : Nat) (ops : Array Oper) : Bool := ops.toList.all fun o => match o.dst with
 | some d => Nat.blt d n
 | none => true
theorem zZG {n : Nat} {ops : Array Oper} (h : zJW n ops = true) {o : Oper} (ho : o ∈ ops.toList) {d : Nat} (hd : o.dst = some d) : d < n := by
 have := List.all_eq_true.1 h o ho
 simp only [hd] at this
 simpa [Nat.blt_eq] using this
theorem zZR {n : Nat} {ops : Array Oper} (hf : zJW n ops = true) {o : Oper} {a : Act} (hs : a.tmps.size = n) {Y N : Env -> Prop} (h : zVP ops o (zQ0 a) Y N) :
  (Region.wanted o (yielded ops a.tmps) = true /\ Y (zQ0 a)) ∨ (Region.wanted o (yielded ops a.tmps) = false /\ N (zQ0 a)) := by
 unfold zVP at h
 unfold Region.wanted
 split at h
 ·rename_i hg; rw [hg]; exact .inl ⟨rfl, h⟩
 ·rename_i j want hg
  rw [hg]
  split at h
  ·exact h.elim
  ·rename_i t ht
   obtain ⟨oj, hoj, hdst⟩ := Option.bind_eq_some_iff.1 ht
   have hlt : t < a.tmps.size := by rw [hs]; exact zZG hf (List.mem_of_getElem? (l := ops.toList) (i := j) (by simpa using hoj)) hdst
   have hy : yielded ops a.tmps j = match zQ0 a t with | .bool b => some b | _ => none := by
    unfold yielded
    rw [ht]
    simp only [Option.bind_some, zQ0]
    rw [Array.getElem?_eq_getElem hlt]
    have : a.tmps.getD t undef = a.tmps[t] := by simp [hlt]
    rw [this]
    cases a.tmps[t] <;> rfl
   split at h
   ·rename_i b hb
    rw [hb] at hy
    simp only at hy
    cases b <;> cases want <;> simp only [Br] at h <;> rw [zJG hb] at h <;> simp only [hy]
    ·exact .inl ⟨rfl, h⟩
    ·exact .inr ⟨rfl, h⟩
    ·exact .inr ⟨rfl, h⟩
    ·exact .inl ⟨rfl, h⟩
   ·rename_i x hb
    rw [hb] at hy
    simp only at hy
    simp only [hy]
    exact .inr ⟨by cases want <;> rfl, h⟩
   ·exact h.elim
def opsE (P : Program) (ops : Array Oper) (K : EP) : List Oper -> EP
 | [], ρ, ds, w => K ρ ds w
 | o :: zQ1, ρ, ds, w => zVP ops o ρ (fun ρ => opE P o ρ ds w fun v ds w => opsE P ops K zQ1 (upd ρ o.dst v) ds w) (fun ρ => opsE P ops K zQ1 (upd ρ o.dst undef) ds w)
def lift (n : Nat) (Q : EQ) : Exit -> Act -> World -> Prop
 | .panic _, _, _ => False
 | .outgrown, _, _ => False
 | .goto _, _, _ => False
 | e, a, w => a.tmps.size = n /\ Q e (zQ0 a) a.defers w
def zXt (ops : List Oper) (t : Nat) : Bool := ops.any fun o => match o.dst with
 | some d => Nat.beq d t
 | none => false
def zQE (ops : List Oper) : Bool := ops.all fun o => match o.op with
 | .defer _ => false
 | _ => true
structure zXg (g : Nat -> Bool) (nd : Bool) (a a' : Act) : Prop where
 size : a'.tmps.size = a.tmps.size
 slots : ∀ t, g t = false -> zQ0 a' t = zQ0 a t
 defers : nd = true -> a'.defers = a.defers
theorem zXg.refl (g : Nat -> Bool) (nd : Bool) (a : Act) : zXg g nd a a := ⟨rfl, fun _ _ => rfl, fun _ => rfl⟩
theorem zXg.trans {g : Nat -> Bool} {nd : Bool} {a b c : Act} (h : zXg g nd a b) (h' : zXg g nd b c) : zXg g nd a c :=
 ⟨h'.size.trans h.size, fun t ht => (h'.slots t ht).trans (h.slots t ht), fun hd => (h'.defers hd).trans (h.defers hd)⟩
theorem zXg.weaken {g g' : Nat -> Bool} {nd nd' : Bool} {a b : Act} (h : zXg g nd a b) (hg : ∀ t, g' t = false -> g t = false) (hn : nd' = true -> nd = true) : zXg g' nd' a b :=
 ⟨h.size, fun t ht => h.slots t (hg t ht), fun hd => h.defers (hn hd)⟩
theorem Act.put_size (a : Act) (d : Option Nat) (v : Value) : (a.put d v).tmps.size = a.tmps.size := by cases d <;> simp [Act.put]
theorem Act.put_def (a : Act) (d : Option Nat) (v : Value) : (a.put d v).defers = a.defers := by cases d <;> rfl
theorem zXg.put (a : Act) (o : Oper) (v : Value) (nd : Bool) : zXg (zXt [o]) nd a (a.put o.dst v) := by
 refine ⟨Act.put_size _ _ _, fun t ht => ?_, fun _ => Act.put_def _ _ _⟩
 cases hd : o.dst with
 | none => rfl
 | some d =>
  have hne : d ≠ t := by
   intro e; subst e
   simp [zXt, hd] at ht
  simp [zQ0, Act.put, Array.getElem?_setIfInBounds_ne hne]
theorem zW4 {n : Nat} {ops : Array Oper} (hf : zJW n ops = true) {K : EP} {Q : Exit -> Act -> World -> Prop} : ∀ (l : List Oper), (∀ o, o ∈ l -> o ∈ ops.toList) -> ∀ (a : Act) (w : World), a.tmps.size = n ->
  opsE P ops K l (zQ0 a) a.defers w -> (∀ a' w', zXg (zXt l) (zQE l) a a' -> K (zQ0 a') a'.defers w' -> Q .normal a' w') -> wpList P ops Q l a w
 | [], _, a, w, _, h, hQ => hQ a w (zXg.refl _ _ _) h
 | o :: zQ1, hm, a, w, hs, h, hQ => by
  have hput : ∀ d, o.dst = some d -> d < a.tmps.size := fun d hd => by rw [hs]; exact zZG hf (hm o (by simp)) hd
  have hg1 : ∀ t, zXt (o :: zQ1) t = false -> zXt [o] t = false := fun t ht => by simp only [zXt, List.any_cons, Bool.or_eq_false_iff, List.any_nil] at ht ⊢; exact ⟨ht.1, trivial⟩
  have hg2 : ∀ t, zXt (o :: zQ1) t = false -> zXt zQ1 t = false := fun t ht => by simp only [zXt, List.any_cons, Bool.or_eq_false_iff] at ht ⊢; exact ht.2
  have hn1 : zQE (o :: zQ1) = true -> zQE [o] = true := fun ht => by simp only [zQE, List.all_cons, Bool.and_eq_true, List.all_nil] at ht ⊢; exact ⟨ht.1, trivial⟩
  have hn2 : zQE (o :: zQ1) = true -> zQE zQ1 = true := fun ht => by simp only [zQE, List.all_cons, Bool.and_eq_true] at ht ⊢; exact ht.2
  have ih : ∀ (b : Act) (w : World), zXg (zXt [o]) (zQE [o]) a b -> opsE P ops K zQ1 (zQ0 b) b.defers w -> wpList P ops Q zQ1 b w := fun b w hab hb =>
   zW4 hf zQ1 (fun x hx => hm x (by simp [hx])) b w (hab.size.trans hs) hb fun a' w' hag hK => hQ a' w' ((hab.weaken hg1 hn1).trans (hag.weaken hg2 hn2)) hK
  unfold wpList
  rcases zZR hf hs h with ⟨hw, hY⟩ | ⟨hw, hN⟩
  ·rw [if_pos hw]
   refine .inl (zVO hY _ _ fun v ds w' hK hds => ih _ w' ?_ ?_)
   ·have h1 := zXg.put { a with defers := ds } o v (zQE [o])
    refine ⟨h1.size, h1.slots, fun hd => ?_⟩
    rw [Act.put_def]
    exact hds fun c hc => by simp [zQE, hc] at hd
   ·rw [zZQ (a := { a with defers := ds }) hput, Act.put_def]; exact hK
  ·rw [if_neg (by rw [hw]; simp)]
   refine ih _ w (zXg.put a o _ _) ?_
   rw [zZQ hput, Act.put_def]; exact hN
end Go.Sh
