import Derived.Test.YtcihcbfcgjepfaaGreatDoorShFour
/- Operations that touch no memory ('pureOp'), and those that only read it ('lopE'), and their soundness in every world that is asked of. For every program. -/
namespace Go.Sh
variable {P : Program}
def zQi (P : Program) {α : Type} (s : Sem α) : Prop := ∀ w1 w2 v w', s.run P w1 = .ok v w' -> w' = w1 /\ s.run P w2 = .ok v w2
def zQB (P : Program) {α : Type} (s : Sem α) : Prop := ∀ w v w', s.run P w ≠ .ok v w'
theorem zQB.still {α : Type} {s : Sem α} (h : zQB P s) : zQi P s := fun w1 _ v w' e => absurd e (h w1 v w')
theorem zQi.pure {α : Type} (a : α) : zQi P (Pure.pure a : Sem α) := fun w1 w2 v w' e => by
 simp only [Sem.run_pure, Result.ok.injEq] at e ⊢; exact ⟨e.2.symm, e.1, trivial⟩
theorem zQi.bind {α β : Type} {s : Sem α} {f : α -> Sem β} (h : zQi P s) (hf : ∀ a, zQi P (f a)) : zQi P (s >>= f) := fun w1 w2 v w' e => by
 rw [Sem.run_bind] at e ⊢
 cases hr : s.run P w1 with
 | halt x y => rw [hr] at e; simp [Result.andThen] at e
 | ok a wa =>
  rw [hr] at e
  simp only [Result.andThen_ok] at e
  obtain ⟨rfl, h2⟩ := h w1 w2 a wa hr
  rw [h2]
  simp only [Result.andThen_ok]
  exact hf a _ w2 v w' e
theorem zQB.halt {α : Type} (h : Halt) : zQB P (.halt h : Sem α) := fun _ _ _ e => by simp at e
theorem zQB.bind {α β : Type} {s : Sem α} {f : α -> Sem β} (h : ∀ a, zQB P (f a)) : zQB P (s >>= f) := fun w v w' e => by
 rw [Sem.run_bind] at e
 cases hr : s.run P w with
 | halt x y => rw [hr] at e; simp [Result.andThen] at e
 | ok a wa => rw [hr] at e; exact h a _ _ _ e
theorem zQB.stuck {α : Type} (m : String) : zQB P (stuck m : Sem α) := zQB.halt _
theorem zQB.unsup {α : Type} (m : Unsupported) : zQB P (unsupported m : Sem α) := zQB.halt _
theorem zQB.goPanic {α : Type} (m : Value) : zQB P (goPanic m : Sem α) := zQB.halt _
theorem zQB.runtimePanic {α : Type} (e : RuntimeError) : zQB P (runtimePanic e : Sem α) := by
 unfold Go.runtimePanic
 refine zQB.bind fun p => ?_
 cases e <;> simp only <;> first
  | exact zQB.goPanic _
  | (refine zQB.bind fun _ => ?_; first | exact zQB.goPanic _ | (refine zQB.bind fun _ => ?_; exact zQB.goPanic _))
theorem zQi.underlying (t : TypeId) : zQi P (underlying t) := by
 unfold Go.underlying
 refine zQi.bind (fun w1 w2 v w' e => ?_) fun p => ?_
 ·simp only [run_program, Result.ok.injEq] at e ⊢; exact ⟨e.2.symm, e.1, trivial⟩
 ·split
  ·exact zQi.pure _
  ·exact (zQB.stuck _).still
theorem zQi.typeInfo (t : TypeId) : zQi P (typeInfo t) := by
 unfold Go.typeInfo
 refine zQi.bind (fun w1 w2 v w' e => ?_) fun p => ?_
 ·simp only [run_program, Result.ok.injEq] at e ⊢; exact ⟨e.2.symm, e.1, trivial⟩
 ·split
  ·exact zQi.pure _
  ·exact (zQB.stuck _).still
theorem zQi.sizeOf (t : TypeId) : zQi P (sizeOf t) := zQi.bind (zQi.typeInfo t) fun _ => zQi.pure _
theorem zQi.isAgg (t : TypeId) : zQi P (isAgg t) := by
 unfold Go.isAgg
 refine zQi.bind (zQi.underlying t) fun d => ?_
 split <;> exact zQi.pure _
theorem zQi.zeroValue (t : TypeId) : zQi P (zeroValue t) := by
 unfold Go.zeroValue
 refine zQi.bind (zQi.typeInfo t) fun d => ?_
 split
 ·exact zQi.pure _
 ·exact (zQB.unsup _).still
theorem zQi.part (t : TypeId) (cs : Array Value) (off : Nat) : zQi P (part t cs off) := by
 unfold Go.part
 refine zQi.bind (zQi.isAgg t) fun b => ?_
 split
 ·exact zQi.bind (zQi.sizeOf t) fun _ => zQi.pure _
 ·split
  ·exact zQi.pure _
  ·exact (zQB.stuck _).still
theorem zQi.field (t : TypeId) (cs : Array Value) (f : Nat) : zQi P (Instr.field t (.agg cs) f) := by
 unfold Instr.field
 refine zQi.bind (zQi.underlying t) fun d => ?_
 split
 ·split
  ·exact zQi.bind (zQi.pure _) fun _ => zQi.part _ _ _
  ·exact (zQB.stuck _).still
 ·exact (zQB.stuck _).still
theorem zQi.extract (v : Value) (i : Nat) : zQi P (Instr.extract v i) := by
 unfold Instr.extract
 split
 ·split
  ·exact zQi.pure _
  ·exact (zQB.stuck _).still
 ·exact (zQB.stuck _).still
theorem zQi.mapM {α β : Type} (f : α -> Sem β) (hf : ∀ a, zQi P (f a)) : ∀ l : List α, zQi P (l.mapM f)
 | [] => by simpa using zQi.pure _
 | a :: l => by
  rw [List.mapM_cons]
  exact zQi.bind (hf a) fun _ => zQi.bind (zQi.mapM f hf l) fun _ => zQi.pure _
theorem zQi.build (t : TypeId) (ps : Array (Nat × Value)) : zQi P (Instr.build t ps) := by
 unfold Instr.build
 refine zQi.bind (zQi.zeroValue t) fun z => ?_
 refine zQi.bind (zQi.underlying t) fun d => ?_
 split
 ·refine zQi.bind ?_ fun pl => ?_
  ·rw [Array.mapM_eq_mapM_toList]
   exact zQi.bind (zQi.mapM _ (fun _ => zQi.bind (zQi.sizeOf _) fun _ => zQi.pure _) _) fun _ => zQi.pure _
  ·split
   ·exact zQi.pure _
   ·exact (zQB.stuck _).still
 ·refine zQi.bind (zQi.sizeOf _) fun s => ?_
  split
  ·exact zQi.pure _
  ·exact (zQB.stuck _).still
 ·exact (zQB.stuck _).still
theorem zQi.intBin (op : BinOp) (t : TypeId) (x y : Operand) (k k' : IntKind) (a b : Int) : zQi P (do eqGuard op t x y (.int k a) (.int k' b); binOp op t (.int k a) (.int k' b) : Sem Value) := by
 refine zQi.bind ?_ fun _ => ?_
 ·unfold eqGuard
  cases op <;> exact zQi.pure _
 ·have hsh : zQi P (Op.shift op k a k' b) := by
   unfold Op.shift
   split
   ·exact (zQB.runtimePanic _).still
   ·cases op <;> first | exact zQi.pure _ | exact (zQB.stuck _).still
  have har : ∀ o, zQi P (Op.intArith o k a b) := fun o => by
   unfold Op.intArith; cases o <;> first | exact zQi.pure _ | exact (zQB.stuck _).still
  have hdv : ∀ o, zQi P (Op.intDiv o k a b) := fun o => by
   unfold Op.intDiv
   split
   ·exact (zQB.runtimePanic _).still
   ·cases o <;> first | exact zQi.pure _ | exact (zQB.stuck _).still
  have hbt : ∀ o, zQi P (Op.intBits o k a b) := fun o => by
   unfold Op.intBits; cases o <;> first | exact zQi.pure _ | exact (zQB.stuck _).still
  have hcm : ∀ o, zQi P (Op.intCmp o a b) := fun o => by
   unfold Op.intCmp; cases o <;> first | exact zQi.pure _ | exact (zQB.stuck _).still
  by_cases hk : k = k'
  ·subst hk
   cases op <;> simp only [binOp, ne_eq, not_true_eq_false, if_false] <;> first | exact har _ | exact hdv _ | exact hbt _ | exact hcm _ | exact hsh
  ·cases op <;> simp only [binOp, ne_eq, hk, not_false_eq_true, if_true] <;> first | exact (zQB.stuck _).still | exact hsh
theorem zQi.strBin (op : BinOp) (t : TypeId) (x y : Operand) (a b : ByteArray) : zQi P (do eqGuard op t x y (.string a) (.string b); binOp op t (.string a) (.string b) : Sem Value) := by
 refine zQi.bind ?_ fun _ => ?_
 ·unfold eqGuard
  cases op <;> exact zQi.pure _
 ·have h : zQi P (Op.stringOp op a b) := by
   unfold Op.stringOp
   cases op <;> simp only <;> first | exact zQi.pure _ | exact (zQB.stuck _).still | (split; exact (zQB.unsup _).still; exact zQi.pure _)
  cases op <;> exact h
theorem zQi.unary (op : UnOp) (v : Value) (hv : ∀ p, v ≠ .pointer p) : zQi P (Op.unary op v) := by
 have har : ∀ (o : BinOp) (k : IntKind) (a b : Int), zQi P (Op.intArith o k a b) := fun o k a b => by
  unfold Op.intArith; cases o <;> first | exact zQi.pure _ | exact (zQB.stuck _).still
 have hbt : ∀ (o : BinOp) (k : IntKind) (a b : Int), zQi P (Op.intBits o k a b) := fun o k a b => by
  unfold Op.intBits; cases o <;> first | exact zQi.pure _ | exact (zQB.stuck _).still
 cases op <;> cases v <;> simp only [Op.unary] <;> first | exact har _ _ _ _ | exact hbt _ _ _ _ | exact zQi.pure _ | exact (zQB.stuck _).still | exact absurd rfl (hv _)
theorem zQi.len (at_ : Array TypeId) (t : TypeId) (v : Value) (hv : ∀ m, v ≠ .map m) (hc : ∀ m, v ≠ .chan m) : zQi P (Builtin.len_ at_ t #[v]) := by
 unfold Builtin.len_
 split
 ·rename_i t' x hx
  refine zQi.bind (zQi.underlying _) fun d => ?_
  split <;> first
   | exact zQi.pure _
   | exact (zQB.stuck _).still
   | skip
  ·refine zQi.bind (zQi.underlying _) fun d => ?_
   split
   ·exact zQi.pure _
   ·exact (zQB.stuck _).still
  ·simp at hx; exact absurd hx.2 (hv _)
  ·simp at hx; exact absurd hx.2 (hc _)
 ·exact (zQB.stuck _).still
def yXU (P : Program) (s : Sem Value) (K : Value -> Prop) : Prop := match s.run P (default : World) with
 | .ok v _ => K v
 | .halt _ _ => False
theorem zX7 {s : Sem Value} {K : Value -> Prop} (hs : zQi P s) (h : yXU P s K) : ∃ v, K v /\ ∀ w, s.run P w = .ok v w := by
 unfold yXU at h
 split at h
 ·rename_i v w' hr
  refine ⟨v, h, fun w => ?_⟩
  have := hs _ w _ _ hr
  exact this.2
 ·exact h.elim
def runP (P : Program) (sh : Shp) (s : Sem Value) (K : Value -> Prop) : Prop := sh.ex fun v => (∀ w, s.run P w = .ok v w) /\ K v
def zJN (P : Program) (s : TypeId) (f : Nat) (a : Addr) (K : Addr -> Prop) : Prop :=
 match P.underlying s with
 | some (.struct fs) => match fs[f]? with
  | some fd => match P.info? fd.type with
   | some i => match Nat.beq i.size 0 with
    | false => K (a.add fd.offset)
    | true => False
   | none => False
  | none => False
 | _ => False
theorem zKt {s : TypeId} {f : Nat} {a : Addr} {K : Addr -> Prop} (h : zJN P s f a K) : ∃ b, K b /\ ∀ w, (Instr.fieldAt s (.pointer (some a)) f).run P w = .ok (.pointer (some b)) w := by
 unfold zJN at h
 split at h
 case h_2 => exact h.elim
 rename_i fs hu
 split at h
 case h_2 => exact h.elim
 rename_i fd hfd
 split at h
 case h_2 => exact h.elim
 rename_i i hi
 split at h
 case h_2 => exact h.elim
 rename_i hz
 refine ⟨_, h, fun w => ?_⟩
 have hz' : i.size ≠ 0 := by intro e; rw [e] at hz; cases hz
 simp [Instr.fieldAt, zQk hu, hfd, Instr.sureAddr, fieldPlace, sizeOf, yQn hi, hz']
theorem yQ6 {t : TypeId} {v : Value} {lo hi : Option Value} {K : Value -> Prop} (h : zKh P t v lo hi K) :
  zKh P t v lo hi fun r => K r /\ ∀ w, (Instr.sliceAt t v lo hi none).run P w = .ok r w := by
 unfold zKh at h ⊢
 cases hu : P.underlying t with
 | none => rw [hu] at h; exact h.elim
 | some d =>
  rw [hu] at h
  cases d <;> first | exact h.elim | skip
  ·cases v <;> first | exact h.elim | skip
   rename_i s
   simp only at h ⊢
   obtain ⟨hh, ⟨h1, h⟩, eh⟩ := zQS h
   obtain ⟨l, ⟨h2, hK⟩, el⟩ := zQS h
   have fin : K (.string (s.extract l hh)) /\ ∀ w, (Instr.sliceAt t (.string s) lo hi none).run P w = .ok (.string (s.extract l hh)) w := ⟨hK, fun w => by
    have := zQM (P := P) (isS := false) w eh el h1 h2
    simp [Instr.sliceAt, zQk hu, Instr.slice, this]⟩
   rcases eh with ⟨rfl, rfl⟩ | ⟨k, i, rfl, h0, rfl⟩ <;> rcases el with ⟨rfl, rfl⟩ | ⟨k2, i2, rfl, h02, rfl⟩
   ·exact ⟨h1, h2, fin⟩
   ·exact ⟨h1, h02, h2, fin⟩
   ·exact ⟨h0, h1, h2, fin⟩
   ·exact ⟨h0, h1, h02, h2, fin⟩
  ·rename_i e
   cases v <;> first | exact h.elim | skip
   rename_i a len cap
   simp only at h ⊢
   cases hk : zZM P e with
   | false => rw [hk] at h; exact h.elim
   | true =>
    rw [hk] at h
    simp only at h ⊢
    obtain ⟨hh, ⟨h1, h⟩, eh⟩ := zQS h
    obtain ⟨l, ⟨h2, hK⟩, el⟩ := zQS h
    have fin : K (.slice (if cap = l then a else a.map (·.add (l * zXc P e))) (hh - l) (cap - l)) /\ ∀ w, (Instr.sliceAt t (.slice a len cap) lo hi none).run P w = .ok (.slice (if cap = l then a else a.map (·.add (l * zXc P e))) (hh - l) (cap - l)) w := ⟨hK, fun w => by
     have := zQM (P := P) (isS := true) w eh el h1 h2
     simp [Instr.sliceAt, zQk hu, Instr.slice, this, zQ6 (zQC hk).2]⟩
    rcases eh with ⟨rfl, rfl⟩ | ⟨k, i, rfl, h0, rfl⟩ <;> rcases el with ⟨rfl, rfl⟩ | ⟨k2, i2, rfl, h02, rfl⟩
    ·exact ⟨h1, h2, fin⟩
    ·exact ⟨h1, h02, h2, fin⟩
    ·exact ⟨h0, h1, h2, fin⟩
    ·exact ⟨h0, h1, h02, h2, fin⟩
  ·rename_i n e
   simp only at h ⊢
   cases hk : zZM P e with
   | false => rw [hk] at h; exact h.elim
   | true =>
    rw [hk] at h
    simp only at h ⊢
    obtain ⟨a, ea, h9⟩ := zQG h
    subst ea
    obtain ⟨hh, ⟨h1, h⟩, eh⟩ := zQS h9
    obtain ⟨l, ⟨h2, hK⟩, el⟩ := zQS h
    have fin : K (.slice (some (if n = l then a else a.add (l * zXc P e))) (hh - l) (n - l)) /\ ∀ w, (Instr.sliceAt t (.pointer (some a)) lo hi none).run P w = .ok (.slice (some (if n = l then a else a.add (l * zXc P e))) (hh - l) (n - l)) w := ⟨hK, fun w => by
     have := zQM (P := P) (isS := false) w eh el h1 h2
     simp [Instr.sliceAt, zQk hu, Instr.sureAddr, this, zQ6 (zQC hk).2]⟩
    rcases eh with ⟨rfl, rfl⟩ | ⟨k, i, rfl, h0, rfl⟩ <;> rcases el with ⟨rfl, rfl⟩ | ⟨k2, i2, rfl, h02, rfl⟩
    ·exact ⟨h1, h2, fin⟩
    ·exact ⟨h1, h02, h2, fin⟩
    ·exact ⟨h0, h1, h2, fin⟩
    ·exact ⟨h0, h1, h02, h2, fin⟩
theorem zYF {t : TypeId} {v i : Value} {K : Addr -> Prop} (h : zJr P t v i K) :
  zJr P t v i fun a => K a /\ ∀ w, (Instr.indexAt t v i).run P w = .ok (.pointer (some a)) w := by
 unfold zJr at h ⊢
 obtain ⟨k, n, rfl, h⟩ := zZE h
 simp only [yYg]
 split at h
 ·rename_i e hu
  split at h
  case h_2 => exact h.elim
  rename_i b len cap hk _
  obtain ⟨a, rfl, h0, h1, hK⟩ := h
  refine ⟨a, rfl, h0, h1, hK, fun w => ?_⟩
  have hc : 0 <= n /\ n < (len : Int) := ⟨h0, h1⟩
  simp [Instr.indexAt, asIntOf, zQk hu, hc, zQ6 (zQC hk).2]
 ·rename_i len e hu
  split at h
  case h_2 => exact h.elim
  rename_i hk
  obtain ⟨a, rfl, h0, h1, hK⟩ := zQG h
  refine ⟨h0, h1, hK, fun w => ?_⟩
  have hc : 0 <= n /\ n < (len : Int) := ⟨h0, h1⟩
  simp [Instr.indexAt, asIntOf, zQk hu, hc, zQ6 (zQC hk).2, Instr.sureAddr]
 ·exact h.elim
def yJr (P : Program) (o : Oper) (ρ : Env) (K : Value -> Prop) : Prop :=
 match o.op with
 | .move x => K (ev ρ x)
 | .assign x => K (ev ρ x)
 | .pick c a b => zYh (ev ρ c) fun t => Br t (K (ev ρ a)) (K (ev ρ b))
 | .build t parts => yXU P (Instr.build t (parts.toList.map fun (i, x) => (i, ev ρ x)).toArray) K
 | .nilCheck x => zJe (ev ρ x) fun a => K (.pointer (some a))
 | .binOp op t x y _ => match ev ρ x, ev ρ y with
  | .int k a, .int k' b => match op with
   | .quo => k = k' /\ b ≠ 0 /\ K (.int k (k.wrap (a.tdiv b)))
   | .rem => k = k' /\ b ≠ 0 /\ K (.int k (a.tmod b))
   | .shl => 0 <= b /\ K (.int k (k.wrap (a * 2 ^ (min b.toNat k.bits))))
   | .shr => 0 <= b /\ K (.int k (a.fdiv (2 ^ (min b.toNat k.bits))))
   | op => yXU P (do eqGuard op t x y (.int k a) (.int k' b); binOp op t (.int k a) (.int k' b)) K
  | .string a, .string b => match op with
   | .add => ((a.size + b.size : Nat) : Int) <= 9223372036854775807 /\ K (.string (a ++ b))
   | op => yXU P (do eqGuard op t x y (.string a) (.string b); binOp op t (.string a) (.string b)) K
  | vx, vy => runP P (.one .bool) (do eqGuard op t x y vx vy; binOp op t vx vy) K
 | .unOp op _ x => match ev ρ x with
  | .bool b => yXU P (Op.unary op (.bool b)) K
  | .int k n => yXU P (Op.unary op (.int k n)) K
  | _ => False
 | .convert src dst x => match ev ρ x, P.underlying src, P.underlying dst with
  | .int _ n, some (.int _), some (.int k') => K (.int k' (k'.wrap n))
  | _, _, _ => False
 | .makeFunc fn first cap => K (.func fn (first.toList.map (ev ρ)).toArray (cap.toList.map (ev ρ)).toArray)
 | .slice t x lo hi none => zKh P t (ev ρ x) (match lo with | some y => some (ev ρ y) | none => none) (match hi with | some y => some (ev ρ y) | none => none) K
 | .fieldAddr s x f => zJe (ev ρ x) fun a => zJN P s f a fun b => K (.pointer (some b))
 | .field t x f => match ev ρ x with
  | .agg cs => yXU P (Instr.field t (.agg cs) f) K
  | _ => False
 | .indexAddr t x i => zJr P t (ev ρ x) (ev ρ i) fun a => K (.pointer (some a))
 | .index t x i => match ev ρ x with
  | .string s => yYg (ev ρ i) fun _ n => match P.underlying t with
   | some .string => ∃ b : UInt8, 0 <= n /\ s[n.toNat]? = some b /\ K (.int .u8 b.toNat)
   | _ => False
  | v => match yKc P t with
   | some e => runP P (yXT P e) (Instr.index t v (ev ρ i)) K
   | none => False
 | .extract t ix => yXU P (Instr.extract (ev ρ t) ix) fun v => (yXT P o.type).dec v K
 | .call c => match c.callee with
  | .builtin .len => match c.args.toList.map (ev ρ) with
   | [.string s] => yXU P (Builtin.len_ c.argTypes o.type #[.string s]) K
   | [.slice a n m] => yXU P (Builtin.len_ c.argTypes o.type #[.slice a n m]) K
   | _ => False
  | _ => False
 | _ => False
theorem zQI {o : Oper} {ρ : Operand -> Value} {s : Sem Value} {v : Value} (e : execOp ρ o = (do pure (.value (← s)))) (h : ∀ w, s.run P w = .ok v w) : ∀ w, (execOp ρ o).run P w = .ok (.value v) w := fun w => by
 rw [e]; simp [h w]
theorem zVG {o : Oper} {ρ : Env} {K : Value -> Prop} (h : yJr P o ρ K) : ∃ v, K v /\ ∀ w, (execOp (ev ρ) o).run P w = .ok (.value v) w := by
 unfold yJr at h
 split at h
 case h_1 x hop => exact ⟨_, h, fun w => by unfold execOp; rw [hop]; rfl⟩
 case h_2 x hop => exact ⟨_, h, fun w => by unfold execOp; rw [hop]; rfl⟩
 case h_3 c a b hop =>
  unfold zYh at h
  split at h
  ·rename_i t ht
   refine ⟨if t then ev ρ a else ev ρ b, by cases t <;> exact h, fun w => ?_⟩
   unfold execOp; rw [hop]; simp [ht, asBool]
  ·exact h.elim
 case h_4 t parts hop =>
  rw [zXW] at h
  obtain ⟨v, hK, hr⟩ := zX7 (zQi.build _ _) h
  exact ⟨v, hK, zQI (by unfold execOp; rw [hop]) hr⟩
 case h_5 x hop =>
  obtain ⟨a, hx, hK⟩ := zQG h
  exact ⟨_, hK, fun w => by unfold execOp; rw [hop]; simp [hx]⟩
 case h_6 op t x y _ hop =>
  have fin : ∀ v, K v -> (∀ w, (do eqGuard op t x y (ev ρ x) (ev ρ y); binOp op t (ev ρ x) (ev ρ y) : Sem Value).run P w = .ok v w) -> ∃ v, K v /\ ∀ w, (execOp (ev ρ) o).run P w = .ok (.value v) w := fun v hK hr =>
   ⟨v, hK, zQI (s := do eqGuard op t x y (ev ρ x) (ev ρ y); binOp op t (ev ρ x) (ev ρ y)) (by unfold execOp; rw [hop]) hr⟩
  split at h
  ·rename_i k a k' b hx hy
   rw [hx, hy] at fin
   split at h
   ·obtain ⟨rfl, hb, hK⟩ := h
    exact fin _ hK fun w => by simp [eqGuard, binOp, Op.intDiv, hb]
   ·obtain ⟨rfl, hb, hK⟩ := h
    exact fin _ hK fun w => by simp [eqGuard, binOp, Op.intDiv, hb]
   ·obtain ⟨hb, hK⟩ := h
    exact fin _ hK fun w => by simp [eqGuard, binOp, Op.shift, Int.not_lt.2 hb]
   ·obtain ⟨hb, hK⟩ := h
    exact fin _ hK fun w => by simp [eqGuard, binOp, Op.shift, Int.not_lt.2 hb]
   ·obtain ⟨v, hK, hr⟩ := zX7 (zQi.intBin _ _ _ _ _ _ _ _) h
    exact fin _ hK hr
  ·rename_i a b hx hy
   rw [hx, hy] at fin
   split at h
   ·obtain ⟨hs, hK⟩ := h
    refine fin _ hK fun w => ?_
    have : ¬ (((a.size + b.size : Nat) : Int) > IntKind.i64.max) := by
     have e : IntKind.i64.max = 9223372036854775807 := by decide
     rw [e]; omega
    simp only [eqGuard, binOp, Op.stringOp]
    rw [if_neg this]
    simp
   ·obtain ⟨v, hK, hr⟩ := zX7 (zQi.strBin _ _ _ _ _ _) h
    exact fin _ hK hr
  ·obtain ⟨v, hr, hK⟩ := Shp.ex_elim h
   exact fin _ hK hr
 case h_7 op _ x hop =>
  split at h
  ·rename_i b hx
   obtain ⟨v, hK, hr⟩ := zX7 (zQi.unary _ _ (by simp)) h
   exact ⟨v, hK, zQI (s := Op.unary op (ev ρ x)) (by unfold execOp; rw [hop]) (by rw [hx]; exact hr)⟩
  ·rename_i k n hx
   obtain ⟨v, hK, hr⟩ := zX7 (zQi.unary _ _ (by simp)) h
   exact ⟨v, hK, zQI (s := Op.unary op (ev ρ x)) (by unfold execOp; rw [hop]) (by rw [hx]; exact hr)⟩
  ·exact h.elim
 case h_8 src dst x hop =>
  split at h
  ·rename_i k n k1 k' hx hs hd
   refine ⟨_, h, zQI (s := convert src dst (ev ρ x)) (by unfold execOp; rw [hop]) fun w => ?_⟩
   simp [convert, zQk hs, zQk hd, hx, Conv.intToInt]
  ·exact h.elim
 case h_9 fn first cap hop =>
  rw [zXW, zXW] at h
  exact ⟨_, h, zQI (s := Instr.makeFunc fn (first.map (ev ρ)) (cap.map (ev ρ))) (by unfold execOp; rw [hop]) fun w => rfl⟩
 case h_10 t x lo hi hop =>
  have h' : zKh P t (ev ρ x) (lo.map (ev ρ)) (hi.map (ev ρ)) K := by cases lo <;> cases hi <;> exact h
  obtain ⟨v, _, hK, hr⟩ := zKm (w := default) (yQ6 h')
  exact ⟨v, hK, zQI (s := Instr.sliceAt t (ev ρ x) (lo.map (ev ρ)) (hi.map (ev ρ)) none) (by unfold execOp; rw [hop]; rfl) hr⟩
 case h_11 s x f hop =>
  obtain ⟨a, hx, h⟩ := zQG h
  obtain ⟨b, hK, hr⟩ := zKt h
  exact ⟨_, hK, zQI (s := Instr.fieldAt s (ev ρ x) f) (by unfold execOp; rw [hop]) (by rw [hx]; exact hr)⟩
 case h_12 t x f hop =>
  split at h
  ·rename_i cs hx
   obtain ⟨v, hK, hr⟩ := zX7 (zQi.field _ _ _) h
   exact ⟨v, hK, zQI (s := Instr.field t (ev ρ x) f) (by unfold execOp; rw [hop]) (by rw [hx]; exact hr)⟩
  ·exact h.elim
 case h_13 t x i hop =>
  obtain ⟨a, hr, hK, hrw⟩ := zJE (K := fun a => K (.pointer (some a)) /\ ∀ w, (Instr.indexAt t (ev ρ x) (ev ρ i)).run P w = .ok (.pointer (some a)) w) (w := default) (zYF h)
  exact ⟨_, hK, zQI (s := Instr.indexAt t (ev ρ x) (ev ρ i)) (by unfold execOp; rw [hop]) hrw⟩
 case h_14 t x i hop =>
  split at h
  ·rename_i s hx
   obtain ⟨k, n, hi, h⟩ := zZE h
   split at h
   ·rename_i hu
    obtain ⟨b, h0, hb, hK⟩ := h
    refine ⟨_, hK, zQI (s := Instr.index t (ev ρ x) (ev ρ i)) (by unfold execOp; rw [hop]) fun w => ?_⟩
    simp [hx, hi, Instr.index, asIntOf, zQk hu, h0, hb]
   ·exact h.elim
  ·split at h
   ·obtain ⟨v, hr, hK⟩ := Shp.ex_elim h
    exact ⟨_, hK, zQI (s := Instr.index t (ev ρ x) (ev ρ i)) (by unfold execOp; rw [hop]) hr⟩
   ·exact h.elim
 case h_15 t ix hop =>
  obtain ⟨v, hK, hr⟩ := zX7 (zQi.extract _ _) h
  have hK := Shp.dec_elim hK
  exact ⟨v, hK, zQI (s := Instr.extract (ev ρ t) ix) (by unfold execOp; rw [hop]) hr⟩
 case h_16 c hop =>
  split at h
  ·rename_i hc
   have key : ∀ x, c.args.toList.map (ev ρ) = [x] -> zQi P (Builtin.len_ c.argTypes o.type #[x]) -> yXU P (Builtin.len_ c.argTypes o.type #[x]) K -> ∃ v, K v /\ ∀ w, (execOp (ev ρ) o).run P w = .ok (.value v) w := fun x hx hst h => by
    obtain ⟨v, hK, hr⟩ := zX7 hst h
    have e : c.args.map (ev ρ) = #[x] := by apply Array.ext'; simpa using hx
    refine ⟨v, hK, zQI (s := Builtin.len_ c.argTypes o.type #[x]) ?_ hr⟩
    unfold execOp
    simp only [hop]
    unfold resolve
    simp only [hc, e]
    rfl
   split at h
   ·rename_i s hx; exact key _ hx (zQi.len _ _ _ (by simp) (by simp)) h
   ·rename_i a n m hx; exact key _ hx (zQi.len _ _ _ (by simp) (by simp)) h
   ·exact h.elim
  ·exact h.elim
 case h_17 => exact h.elim
end Go.Sh
