import Derived.Test.YtcihcbfcgjepfaaGreatDoorShThree
/- Regions and code of the shallow semantics, and their soundness: 'ptE' gives a triple 'Tr' of the model's code; the rules by which triples are joined; a function's call. For every program. -/
namespace Go.Sh
variable {P : Program}
abbrev EP := Env -> List Deferred -> World -> Prop
abbrev EQ := Exit -> EP
theorem zKc {ρ : Env} {t : Nat} {v : Value} (h : ρ t = v) : zJZ ρ t v = ρ := by
 funext u
 unfold zJZ
 cases hu : Nat.beq u t with
 | false => rfl
 | true => rw [Nat.eq_of_beq_eq_true hu]; exact h.symm
def zYw (ops : Array Oper) (o : Oper) (ρ : Env) (Y N : Env -> Prop) : Prop :=
 match o.guard with
 | none => Y ρ
 | some (j, want) => match (ops[j]?).bind (·.dst) with
  | none => False
  | some t => match ρ t with
   | .bool b => Br b (match want with | true => Y (zJZ ρ t (.bool true)) | false => N (zJZ ρ t (.bool true))) (match want with | true => N (zJZ ρ t (.bool false)) | false => Y (zJZ ρ t (.bool false)))
   | .tuple _ => N ρ
   | _ => False
def zKx (n : Nat) (ops : Array Oper) : Bool := ops.toList.all fun o => match o.dst with
 | some d => Nat.blt d n
 | none => true
theorem zZY {n : Nat} {ops : Array Oper} (h : zKx n ops = true) {o : Oper} (ho : o ∈ ops.toList) {d : Nat} (hd : o.dst = some d) : d < n := by
 have := List.all_eq_true.1 h o ho
 simp only [hd] at this
 simpa [Nat.blt_eq] using this
theorem zZW {n : Nat} {ops : Array Oper} (hf : zKx n ops = true) {o : Oper} {a : Act} (hs : a.tmps.size = n) {Y N : Env -> Prop} (h : zYw ops o (zQF a) Y N) :
  (Region.wanted o (yielded ops a.tmps) = true /\ Y (zQF a)) ∨ (Region.wanted o (yielded ops a.tmps) = false /\ N (zQF a)) := by
 unfold zYw at h
 unfold Region.wanted
 split at h
 ·rename_i hg; rw [hg]; exact .inl ⟨rfl, h⟩
 ·rename_i j want hg
  rw [hg]
  split at h
  ·exact h.elim
  ·rename_i t ht
   obtain ⟨oj, hoj, hdst⟩ := Option.bind_eq_some_iff.1 ht
   have hlt : t < a.tmps.size := by rw [hs]; exact zZY hf (List.mem_of_getElem? (l := ops.toList) (i := j) (by simpa using hoj)) hdst
   have hy : yielded ops a.tmps j = match zQF a t with | .bool b => some b | _ => none := by
    unfold yielded
    rw [ht]
    simp only [Option.bind_some, zQF]
    rw [Array.getElem?_eq_getElem hlt]
    have : a.tmps.getD t undef = a.tmps[t] := by simp [hlt]
    rw [this]
    cases a.tmps[t] <;> rfl
   split at h
   ·rename_i b hb
    rw [hb] at hy
    simp only at hy
    cases b <;> cases want <;> simp only [Br] at h <;> rw [zKc hb] at h <;> simp only [hy]
    ·exact .inl ⟨rfl, h⟩
    ·exact .inr ⟨rfl, h⟩
    ·exact .inr ⟨rfl, h⟩
    ·exact .inl ⟨rfl, h⟩
   ·rename_i x hb
    rw [hb] at hy
    simp only at hy
    simp only [hy]
    exact .inr ⟨by cases want <;> rfl, h⟩
   ·exact h.elim
def opsE (P : Program) (ops : Array Oper) (K : EP) : List Oper -> EP
 | [], ρ, ds, w => K ρ ds w
 | o :: zQx, ρ, ds, w => zYw ops o ρ (fun ρ => opE P o ρ ds w fun v ds w => opsE P ops K zQx (upd ρ o.dst v) ds w) (fun ρ => opsE P ops K zQx (upd ρ o.dst undef) ds w)
def lift (n : Nat) (Q : EQ) : Exit -> Act -> World -> Prop
 | .panic _, _, _ => False
 | .outgrown, _, _ => False
 | .goto _, _, _ => False
 | e, a, w => a.tmps.size = n /\ Q e (zQF a) a.defers w
def zXE (ops : List Oper) (t : Nat) : Bool := ops.any fun o => match o.dst with
 | some d => Nat.beq d t
 | none => false
def zQT (ops : List Oper) : Bool := ops.all fun o => match o.op with
 | .defer _ => false
 | _ => true
structure zXx (g : Nat -> Bool) (nd : Bool) (a a' : Act) : Prop where
 size : a'.tmps.size = a.tmps.size
 slots : ∀ t, g t = false -> zQF a' t = zQF a t
 defers : nd = true -> a'.defers = a.defers
theorem zXx.refl (g : Nat -> Bool) (nd : Bool) (a : Act) : zXx g nd a a := ⟨rfl, fun _ _ => rfl, fun _ => rfl⟩
theorem zXx.trans {g : Nat -> Bool} {nd : Bool} {a b c : Act} (h : zXx g nd a b) (h' : zXx g nd b c) : zXx g nd a c :=
 ⟨h'.size.trans h.size, fun t ht => (h'.slots t ht).trans (h.slots t ht), fun hd => (h'.defers hd).trans (h.defers hd)⟩
theorem zXx.weaken {g g' : Nat -> Bool} {nd nd' : Bool} {a b : Act} (h : zXx g nd a b) (hg : ∀ t, g' t = false -> g t = false) (hn : nd' = true -> nd = true) : zXx g' nd' a b :=
 ⟨h.size, fun t ht => h.slots t (hg t ht), fun hd => h.defers (hn hd)⟩
theorem Act.put_size (a : Act) (d : Option Nat) (v : Value) : (a.put d v).tmps.size = a.tmps.size := by cases d <;> simp [Act.put]
theorem Act.put_def (a : Act) (d : Option Nat) (v : Value) : (a.put d v).defers = a.defers := by cases d <;> rfl
theorem zXx.put (a : Act) (o : Oper) (v : Value) (nd : Bool) : zXx (zXE [o]) nd a (a.put o.dst v) := by
 refine ⟨Act.put_size _ _ _, fun t ht => ?_, fun _ => Act.put_def _ _ _⟩
 cases hd : o.dst with
 | none => rfl
 | some d =>
  have hne : d ≠ t := by
   intro e; subst e
   simp [zXE, hd] at ht
  simp [zQF, Act.put, Array.getElem?_setIfInBounds_ne hne]
theorem zVi {n : Nat} {ops : Array Oper} (hf : zKx n ops = true) {K : EP} {Q : Exit -> Act -> World -> Prop} : ∀ (l : List Oper), (∀ o, o ∈ l -> o ∈ ops.toList) -> ∀ (a : Act) (w : World), a.tmps.size = n ->
  opsE P ops K l (zQF a) a.defers w -> (∀ a' w', zXx (zXE l) (zQT l) a a' -> K (zQF a') a'.defers w' -> Q .normal a' w') -> wpList P ops Q l a w
 | [], _, a, w, _, h, hQ => hQ a w (zXx.refl _ _ _) h
 | o :: zQx, hm, a, w, hs, h, hQ => by
  have hput : ∀ d, o.dst = some d -> d < a.tmps.size := fun d hd => by rw [hs]; exact zZY hf (hm o (by simp)) hd
  have hg1 : ∀ t, zXE (o :: zQx) t = false -> zXE [o] t = false := fun t ht => by simp only [zXE, List.any_cons, Bool.or_eq_false_iff, List.any_nil] at ht ⊢; exact ⟨ht.1, trivial⟩
  have hg2 : ∀ t, zXE (o :: zQx) t = false -> zXE zQx t = false := fun t ht => by simp only [zXE, List.any_cons, Bool.or_eq_false_iff] at ht ⊢; exact ht.2
  have hn1 : zQT (o :: zQx) = true -> zQT [o] = true := fun ht => by simp only [zQT, List.all_cons, Bool.and_eq_true, List.all_nil] at ht ⊢; exact ⟨ht.1, trivial⟩
  have hn2 : zQT (o :: zQx) = true -> zQT zQx = true := fun ht => by simp only [zQT, List.all_cons, Bool.and_eq_true] at ht ⊢; exact ht.2
  have ih : ∀ (b : Act) (w : World), zXx (zXE [o]) (zQT [o]) a b -> opsE P ops K zQx (zQF b) b.defers w -> wpList P ops Q zQx b w := fun b w hab hb =>
   zVi hf zQx (fun x hx => hm x (by simp [hx])) b w (hab.size.trans hs) hb fun a' w' hag hK => hQ a' w' ((hab.weaken hg1 hn1).trans (hag.weaken hg2 hn2)) hK
  unfold wpList
  rcases zZW hf hs h with ⟨hw, hY⟩ | ⟨hw, hN⟩
  ·rw [if_pos hw]
   refine .inl (zY3 hY _ _ fun v ds w' hK hds => ih _ w' ?_ ?_)
   ·have h1 := zXx.put { a with defers := ds } o v (zQT [o])
    refine ⟨h1.size, h1.slots, fun hd => ?_⟩
    rw [Act.put_def]
    exact hds fun c hc => by simp [zQT, hc] at hd
   ·rw [zJj (a := { a with defers := ds }) hput, Act.put_def]; exact hK
  ·rw [if_neg (by rw [hw]; simp)]
   refine ih _ w (zXx.put a o _ _) ?_
   rw [zJj hput, Act.put_def]; exact hN
end Go.Sh
