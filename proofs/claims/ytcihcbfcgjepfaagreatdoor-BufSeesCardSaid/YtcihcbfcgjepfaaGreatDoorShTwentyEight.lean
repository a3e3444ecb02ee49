import Derived.Test.YtcihcbfcgjepfaaGreatDoorShEight
/- Plans: how a function's code is walked, piece by piece, as one term; each piece's printed text is held against the code by the kernel. For every program. -/
set_option linter.unusedVariables false
namespace Go.Sh
variable {P : Program} {X Y Z : Type}
def Ty.T : Ty -> Type
 | .int _ => Int
 | .bool => Bool
 | .str => ByteArray
 | .ptr => Option Addr
 | .slice => SV
 | .map => Option Nat
 | .any => Value
def Ty.val : (t : Ty) -> t.T -> Value
 | .int k, (n : Int) => .int k n
 | .bool, (b : Bool) => .bool b
 | .str, (s : ByteArray) => .string s
 | .ptr, (p : Option Addr) => .pointer p
 | .slice, (s : SV) => .slice s.a s.len s.cap
 | .map, (m : Option Nat) => .map m
 | .any, (v : Value) => v
def Ty.take : (t : Ty) -> Value -> (t.T -> Prop) -> Prop
 | .int k, v, K => yW2 k v K
 | .bool, v, K => dBl v K
 | .str, v, K => dStr v K
 | .ptr, v, K => dPtr v K
 | .slice, v, K => dSl v K
 | .map, v, K => dMap v K
 | .any, v, K => K v
theorem Ty.take_elim : {t : Ty} -> {v : Value} -> {K : t.T -> Prop} -> t.take v K -> ∃ x, v = t.val x /\ K x
 | .int k, v, K, h => zYd (K := K) h
 | .bool, v, K, h => yXt (K := K) h
 | .str, v, K, h => zYL (K := K) h
 | .ptr, v, K, h => zYb (K := K) h
 | .slice, v, K, h => yQX (K := K) h
 | .map, v, K, h => zY8 (K := K) h
 | .any, v, K, h => ⟨v, rfl, h⟩
abbrev zKi := Nat × Shp
def FnT : List Ty -> Type -> Type
 | [], X => X
 | t :: ts, X => t.T -> FnT ts X
def Shp.F : Shp -> Type -> Type
 | .one t, X => t.T -> X
 | .agg ts, X => FnT ts X
 | .row _, X => Array Value -> X
def Fn : List zKi -> Type -> Type
 | [], X => X
 | s :: l, X => s.2.F (Fn l X)
def zJb : (ts : List Ty) -> List Value -> FnT ts X -> (X -> Prop) -> Prop
 | [], l, F, K => yJ3 l (K F)
 | t :: ts, l, F, K => dHd l fun v l => t.take v fun x => zJb ts l (F x) K
def Shp.take : (s : Shp) -> Value -> s.F X -> (X -> Prop) -> Prop
 | .one t, v, F, K => Ty.take t v fun x => K (F x)
 | .agg ts, v, F, K => yJd v fun l => zJb ts l F K
 | .row _, v, F, K => yVh v fun cs => K (F cs)
def zXJ : (l : List zKi) -> Env -> Fn l X -> (X -> Prop) -> Prop
 | [], _, F, K => K F
 | s :: l, ρ, F, K => Shp.take s.2 (ρ s.1) F fun F => zXJ l ρ F K
def yVg : (ts : List Ty) -> (List Value -> X) -> FnT ts X
 | [], H => H []
 | t :: ts, H => fun x => yVg ts fun vs => H (t.val x :: vs)
def Shp.cur : (s : Shp) -> (Value -> X) -> s.F X
 | .one t, H => fun x => H (t.val x)
 | .agg ts, H => yVg ts fun vs => H (.agg vs.toArray)
 | .row _, H => fun cs => H (.agg cs)
def cur : (l : List zKi) -> (Env -> X) -> Env -> Fn l X
 | [], G, ρ => G ρ
 | s :: l, G, ρ => Shp.cur s.2 fun v => cur l G (zJZ ρ s.1 v)
theorem zYC : ∀ {ts : List Ty} {l : List Value} {H : List Value -> X} {K : X -> Prop}, zJb ts l (yVg ts H) K -> K (H l)
 | [], l, H, K, h => by
  have h : yJ3 l (K (H [])) := h
  obtain ⟨rfl, g1⟩ := zZ5 h; replace h := g1; exact h
 | t :: ts, l, H, K, h => by
  have h : dHd l fun v l => t.take v fun x => zJb ts l (yVg ts fun vs => H (t.val x :: vs)) K := h
  obtain ⟨v, r, rfl, g2⟩ := zJw h; replace h := g2
  obtain ⟨x, rfl, g3⟩ := Ty.take_elim h; replace h := g3
  exact zYC (ts := ts) (H := fun vs => H (t.val x :: vs)) h
theorem Shp.take_cur {s : Shp} {v : Value} {H : Value -> X} {K : X -> Prop} (h : Shp.take s v (s.cur H) K) : K (H v) := by
 cases s with
 | one t =>
  have h : Ty.take t v fun x => K (H (t.val x)) := h
  obtain ⟨x, rfl, g4⟩ := Ty.take_elim h; replace h := g4; exact h
 | agg ts =>
  have h : yJd v fun l => zJb ts l (yVg ts fun vs => H (.agg vs.toArray)) K := h
  obtain ⟨l, rfl, g5⟩ := zZV h; replace h := g5; exact zYC (H := fun vs => H (.agg vs.toArray)) h
 | row n =>
  have h : yVh v fun cs => K (H (.agg cs)) := h
  obtain ⟨cs, rfl, g6⟩ := zJe h; replace h := g6; exact h
theorem Ty.take_val {t : Ty} {x : t.T} {K : t.T -> Prop} (h : K x) : t.take (t.val x) K := by
 cases t with
 | int k =>
  show yW2 k (.int k x) K
  unfold yW2; simp only [decide_true]; exact h
 | _ => exact h
theorem take_cur : ∀ {l : List zKi} {ρ : Env} {G : Env -> X} {K : X -> Prop}, zXJ l ρ (cur l G ρ) K -> K (G ρ)
 | [], _, _, _, h => h
 | s :: l, ρ, G, K, h => by
  have h1 := Shp.take_cur (H := fun v => cur l G (zJZ ρ s.1 v)) (K := fun F => zXJ l ρ F K) h
  rw [zKc rfl] at h1
  exact take_cur h1
theorem zWv : ∀ {l : List zKi} {ρ ρ' : Env} {F : Fn l X} {K : X -> Prop}, (∀ s ∈ l, ρ s.1 = ρ' s.1) -> zXJ l ρ F K -> zXJ l ρ' F K
 | [], _, _, _, _, _, h => h
 | s :: l, ρ, ρ', F, K, he, h => by
  have h : Shp.take s.2 (ρ s.1) F fun F => zXJ l ρ F K := h
  show Shp.take s.2 (ρ' s.1) F fun F => zXJ l ρ' F K
  rw [he s (by simp)] at h
  have hl : ∀ F' : Fn l X, zXJ l ρ F' K -> zXJ l ρ' F' K := fun F' => zWv fun s' hs => he s' (by simp [hs])
  clear he
  obtain ⟨t, sh⟩ := s
  have mono : ∀ (ts : List Ty) (vs : List Value) (F : FnT ts (Fn l X)), zJb ts vs F (fun F => zXJ l ρ F K) -> zJb ts vs F (fun F => zXJ l ρ' F K) := by
   intro ts
   induction ts with
   | nil =>
    intro vs F h
    have h : yJ3 vs (zXJ l ρ F K) := h
    obtain ⟨rfl, g7⟩ := zZ5 h; replace h := g7; exact hl _ h
   | cons ty ts ih =>
    intro vs F h
    have h : dHd vs fun v r => ty.take v fun x => zJb ts r (F x) fun F => zXJ l ρ F K := h
    obtain ⟨v, r, rfl, g8⟩ := zJw h; replace h := g8
    obtain ⟨x, rfl, g9⟩ := Ty.take_elim h; replace h := g9
    exact Ty.take_val (K := fun x => zJb ts r (F x) fun F => zXJ l ρ' F K) (ih r (F x) h)
  cases sh with
  | one ty =>
   have h : Ty.take ty (ρ' t) fun x => zXJ l ρ (F x) K := h
   show Ty.take ty (ρ' t) fun x => zXJ l ρ' (F x) K
   obtain ⟨x, hx, h⟩ := Ty.take_elim h
   rw [hx]
   exact Ty.take_val (K := fun x => zXJ l ρ' (F x) K) (hl (F x) h)
  | agg ts =>
   have h : yJd (ρ' t) fun vs => zJb ts vs F fun F => zXJ l ρ F K := h
   obtain ⟨vs, hv, h⟩ := zZV h
   show yJd (ρ' t) fun vs => zJb ts vs F fun F => zXJ l ρ' F K
   rw [hv]
   exact mono ts vs F h
  | row n =>
   have h : yVh (ρ' t) fun cs => zXJ l ρ (F cs) K := h
   obtain ⟨cs, hv, h⟩ := zJe h
   show yVh (ρ' t) fun cs => zXJ l ρ' (F cs) K
   rw [hv]
   exact hl _ h
def yQr : List Ty -> Type -> Type
 | [], X => X
 | t :: ts, X => t.T × yQr ts X
def yQs : List Ty -> Type
 | [] => Unit
 | [t] => t.T
 | t :: u :: ts => t.T × yQs (u :: ts)
def Shp.cons : Shp -> Type -> Type
 | .one t, X => t.T × X
 | .agg ts, X => yQr ts X
 | .row _, X => Array Value × X
def Shp.last : Shp -> Type
 | .one t => t.T
 | .agg ts => yQs ts
 | .row _ => Array Value
def Tup : List zKi -> Type
 | [] => Unit
 | [s] => s.2.last
 | s :: u :: l => s.2.cons (Tup (u :: l))
def zWD : (ts : List Ty) -> yQr ts X -> FnT ts Y -> X × Y
 | [], r, F => (r, F)
 | _ :: ts, p, F => zWD ts p.2 (F p.1)
def zVI : (ts : List Ty) -> yQs ts -> FnT ts Y -> Y
 | [], _, F => F
 | [_], x, F => F x
 | _ :: u :: ts, p, F => zVI (u :: ts) p.2 (F p.1)
def Shp.unCons : (s : Shp) -> s.cons X -> s.F Y -> X × Y
 | .one _, p, F => (p.2, F p.1)
 | .agg ts, p, F => zWD ts p F
 | .row _, p, F => (p.2, F p.1)
def Shp.unLast : (s : Shp) -> s.last -> s.F Y -> Y
 | .one _, x, F => F x
 | .agg ts, x, F => zVI ts x F
 | .row _, x, F => F x
def unT : (V : List zKi) -> Tup V -> Fn V X -> X
 | [], _, F => F
 | [s], x, F => Shp.unLast s.2 x F
 | s :: u :: l, x, F => unT (u :: l) (Shp.unCons s.2 x F).1 (Shp.unCons s.2 x F).2
def zWz : (ts : List Ty) -> ((Y -> yQr ts Y) -> Z) -> FnT ts Z
 | [], H => H fun y => y
 | _ :: ts, H => fun x => zWz ts fun g => H fun y => (x, g y)
def zWB : (ts : List Ty) -> (yQs ts -> Z) -> FnT ts Z
 | [], H => H ()
 | [_], H => fun x => H x
 | _ :: u :: ts, H => fun x => zWB (u :: ts) fun r => H (x, r)
def Shp.mkCons : (s : Shp) -> ((Y -> s.cons Y) -> Z) -> s.F Z
 | .one _, H => fun x => H fun y => (x, y)
 | .agg ts, H => zWz ts H
 | .row _, H => fun x => H fun y => (x, y)
def Shp.mkLast : (s : Shp) -> (s.last -> Z) -> s.F Z
 | .one _, H => fun x => H x
 | .agg ts, H => zWB ts H
 | .row _, H => fun x => H x
def mkT : (V : List zKi) -> (Tup V -> X) -> Fn V X
 | [], k => k ()
 | [s], k => Shp.mkLast s.2 k
 | s :: u :: l, k => Shp.mkCons s.2 fun g => mkT (u :: l) fun r => k (g r)
def setV (V : List zKi) (s : Tup V) (ρ : Env) : Env := unT V s (cur V (fun ρ => ρ) ρ)
theorem zW1 : ∀ {ts : List Ty} {p : yQr ts X}, ∃ vs, ∀ {Y : Type} {H : List Value -> Y}, zWD ts p (yVg ts H) = ((zWD ts p (yVg ts fun _ => ())).1, H vs)
 | [], p => ⟨[], rfl⟩
 | t :: ts, p => by
  obtain ⟨vs, h⟩ := zW1 (ts := ts) (p := p.2)
  exact ⟨t.val p.1 :: vs, fun {Y H} => h (H := fun vs => H (t.val p.1 :: vs))⟩
theorem zWo : ∀ {ts : List Ty} {p : yQs ts}, ∃ vs, ∀ {Y : Type} {H : List Value -> Y}, zVI ts p (yVg ts H) = H vs
 | [], p => ⟨[], rfl⟩
 | [t], x => ⟨[t.val x], rfl⟩
 | t :: u :: ts, p => by
  obtain ⟨vs, h⟩ := zWo (ts := u :: ts) (p := p.2)
  exact ⟨t.val p.1 :: vs, fun {Y H} => h (H := fun vs => H (t.val p.1 :: vs))⟩
theorem zWY {s : Shp} {p : s.cons X} : ∃ r v, ∀ {Y : Type} {H : Value -> Y}, s.unCons p (s.cur H) = (r, H v) := by
 cases s with
 | one t => exact ⟨p.2, t.val p.1, rfl⟩
 | agg ts => obtain ⟨vs, h⟩ := zW1 (ts := ts) (p := p); exact ⟨_, .agg vs.toArray, h⟩
 | row n => exact ⟨p.2, .agg p.1, rfl⟩
theorem zVz {s : Shp} {p : s.last} : ∃ v, ∀ {Y : Type} {H : Value -> Y}, s.unLast p (s.cur H) = H v := by
 cases s with
 | one t => exact ⟨t.val p, rfl⟩
 | agg ts => obtain ⟨vs, h⟩ := zWo (ts := ts) (p := p); exact ⟨.agg vs.toArray, h⟩
 | row n => exact ⟨.agg p, rfl⟩
theorem yYo : ∀ {V : List zKi} {s : Tup V} {X : Type} {G : Env -> X} {ρ : Env}, unT V s (cur V G ρ) = G (setV V s ρ)
 | [], _, _, _, _ => rfl
 | [s], x, X, G, ρ => by
  obtain ⟨v, h⟩ := zVz (s := s.2) (p := x)
  show s.2.unLast x (s.2.cur fun v => G (zJZ ρ s.1 v)) = G (s.2.unLast x (s.2.cur fun v => zJZ ρ s.1 v))
  rw [h, h]
 | s :: u :: l, x, X, G, ρ => by
  obtain ⟨r, v, h⟩ := zWY (s := s.2) (p := x)
  show unT (u :: l) (s.2.unCons x (s.2.cur fun v => cur (u :: l) G (zJZ ρ s.1 v))).1 (s.2.unCons x (s.2.cur fun v => cur (u :: l) G (zJZ ρ s.1 v))).2 = G (unT (u :: l) (s.2.unCons x (s.2.cur fun v => cur (u :: l) (fun ρ => ρ) (zJZ ρ s.1 v))).1 (s.2.unCons x (s.2.cur fun v => cur (u :: l) (fun ρ => ρ) (zJZ ρ s.1 v))).2)
  rw [h, h]
  exact yYo (V := u :: l)
theorem zVf : ∀ {V : List zKi} {s : Tup V} {ρ ρ' : Env} {t : Nat}, (t ∈ V.map Prod.fst ∨ ρ t = ρ' t) -> setV V s ρ t = setV V s ρ' t
 | [], _, _, _, _, h => h.elim (fun h => by cases h) id
 | [s], x, ρ, ρ', t, h => by
  obtain ⟨v, hv⟩ := zVz (s := s.2) (p := x)
  show s.2.unLast x (s.2.cur fun v => zJZ ρ s.1 v) t = s.2.unLast x (s.2.cur fun v => zJZ ρ' s.1 v) t
  rw [hv, hv]
  unfold zJZ
  cases hb : Nat.beq t s.1 with
  | true => rfl
  | false =>
   rcases h with h | h
   ·simp only [List.map_cons, List.map_nil, List.mem_singleton] at h
    rw [h, Nat.beq_refl] at hb; cases hb
   ·exact h
 | s :: u :: l, x, ρ, ρ', t, h => by
  obtain ⟨r, v, hv⟩ := zWY (s := s.2) (p := x)
  show unT (u :: l) (s.2.unCons x (s.2.cur fun v => cur (u :: l) (fun ρ => ρ) (zJZ ρ s.1 v))).1 (s.2.unCons x (s.2.cur fun v => cur (u :: l) (fun ρ => ρ) (zJZ ρ s.1 v))).2 t = unT (u :: l) (s.2.unCons x (s.2.cur fun v => cur (u :: l) (fun ρ => ρ) (zJZ ρ' s.1 v))).1 (s.2.unCons x (s.2.cur fun v => cur (u :: l) (fun ρ => ρ) (zJZ ρ' s.1 v))).2 t
  rw [hv, hv]
  refine zVf (V := u :: l) (s := r) (ρ := zJZ ρ s.1 v) (ρ' := zJZ ρ' s.1 v) ?_
  unfold zJZ
  cases hb : Nat.beq t s.1 with
  | true => exact .inr rfl
  | false =>
   rcases h with h | h
   ·rw [List.map_cons, List.mem_cons] at h
    rcases h with h | h
    ·rw [h, Nat.beq_refl] at hb; cases hb
    ·exact .inl h
   ·exact .inr h
theorem zK3 : ∀ {ts : List Ty} {l : List Value} {H : (X -> yQr ts X) -> Z} {K : Z -> Prop}, zJb ts l (zWz ts H) K -> ∃ g : X -> yQr ts X, K (H g) /\ ∀ x {Y : Type} {G : List Value -> Y}, zWD ts (g x) (yVg ts G) = (x, G l)
 | [], l, H, K, h => by
  have h : yJ3 l (K (H fun y => y)) := h
  obtain ⟨rfl, g10⟩ := zZ5 h; replace h := g10; exact ⟨_, h, fun x => rfl⟩
 | t :: ts, l, H, K, h => by
  have h : dHd l fun v l => t.take v fun x => zJb ts l (zWz ts fun g => H fun y => (x, g y)) K := h
  obtain ⟨v, r, rfl, g11⟩ := zJw h; replace h := g11
  obtain ⟨x, rfl, g12⟩ := Ty.take_elim h; replace h := g12
  obtain ⟨g, h1, h2⟩ := zK3 (ts := ts) (H := fun g => H fun y => (x, g y)) h
  exact ⟨_, h1, fun y {Y G} => h2 y (G := fun vs => G (t.val x :: vs))⟩
theorem zK7 : ∀ {ts : List Ty} {l : List Value} {H : yQs ts -> Z} {K : Z -> Prop}, zJb ts l (zWB ts H) K -> ∃ g : yQs ts, K (H g) /\ ∀ {Y : Type} {G : List Value -> Y}, zVI ts g (yVg ts G) = G l
 | [], l, H, K, h => by
  have h : yJ3 l (K (H ())) := h
  obtain ⟨rfl, g13⟩ := zZ5 h; replace h := g13; exact ⟨(), h, rfl⟩
 | [t], l, H, K, h => by
  have h : dHd l fun v l => t.take v fun x => yJ3 l (K (H x)) := h
  obtain ⟨v, r, rfl, g14⟩ := zJw h; replace h := g14
  obtain ⟨x, rfl, g15⟩ := Ty.take_elim h; replace h := g15
  obtain ⟨rfl, g16⟩ := zZ5 h; replace h := g16
  exact ⟨x, h, rfl⟩
 | t :: u :: ts, l, H, K, h => by
  have h : dHd l fun v l => t.take v fun x => zJb (u :: ts) l (zWB (u :: ts) fun r => H (x, r)) K := h
  obtain ⟨v, r, rfl, g17⟩ := zJw h; replace h := g17
  obtain ⟨x, rfl, g18⟩ := Ty.take_elim h; replace h := g18
  obtain ⟨g, h1, h2⟩ := zK7 (ts := u :: ts) (H := fun r => H (x, r)) h
  exact ⟨_, h1, fun {Y G} => h2 (G := fun vs => G (t.val x :: vs))⟩
theorem yQE {s : Shp} {v : Value} {H : (X -> s.cons X) -> Z} {K : Z -> Prop} (h : Shp.take s v (s.mkCons H) K) : ∃ g : X -> s.cons X, K (H g) /\ ∀ x {Y : Type} {G : Value -> Y}, s.unCons (g x) (s.cur G) = (x, G v) := by
 cases s with
 | one t =>
  have h : Ty.take t v fun x => K (H fun y => (x, y)) := h
  obtain ⟨x, rfl, g19⟩ := Ty.take_elim h; replace h := g19; exact ⟨_, h, fun y => rfl⟩
 | agg ts =>
  have h : yJd v fun l => zJb ts l (zWz ts H) K := h
  obtain ⟨l, rfl, g20⟩ := zZV h; replace h := g20
  obtain ⟨g, h1, h2⟩ := zK3 h; exact ⟨g, h1, fun x {Y G} => h2 x (G := fun vs => G (.agg vs.toArray))⟩
 | row n =>
  have h : yVh v fun x => K (H fun y => (x, y)) := h
  obtain ⟨cs, rfl, g21⟩ := zJe h; replace h := g21; exact ⟨_, h, fun y => rfl⟩
theorem yQg {s : Shp} {v : Value} {H : s.last -> Z} {K : Z -> Prop} (h : Shp.take s v (s.mkLast H) K) : ∃ g : s.last, K (H g) /\ ∀ {Y : Type} {G : Value -> Y}, s.unLast g (s.cur G) = G v := by
 cases s with
 | one t =>
  have h : Ty.take t v fun x => K (H x) := h
  obtain ⟨x, rfl, g22⟩ := Ty.take_elim h; replace h := g22; exact ⟨_, h, rfl⟩
 | agg ts =>
  have h : yJd v fun l => zJb ts l (zWB ts H) K := h
  obtain ⟨l, rfl, g23⟩ := zZV h; replace h := g23
  obtain ⟨g, h1, h2⟩ := zK7 h; exact ⟨g, h1, fun {Y G} => h2 (G := fun vs => G (.agg vs.toArray))⟩
 | row n =>
  have h : yVh v fun x => K (H x) := h
  obtain ⟨cs, rfl, g24⟩ := zJe h; replace h := g24; exact ⟨_, h, rfl⟩
theorem zVB : ∀ {V : List zKi} {ρ : Env} {X : Type} {k : Tup V -> X} {K : X -> Prop}, zXJ V ρ (mkT V k) K -> ∃ s, setV V s ρ = ρ /\ K (k s)
 | [], ρ, X, k, K, h => ⟨(), rfl, h⟩
 | [s], ρ, X, k, K, h => by
  obtain ⟨g, h1, h2⟩ := yQg (s := s.2) (K := K) h
  refine ⟨g, ?_, h1⟩
  show s.2.unLast g (s.2.cur fun v => zJZ ρ s.1 v) = ρ
  rw [h2]; exact zKc rfl
 | s :: u :: l, ρ, X, k, K, h => by
  obtain ⟨g, h1, h2⟩ := yQE (s := s.2) (K := fun F => zXJ (u :: l) ρ F K) h
  obtain ⟨r, h3, h4⟩ := zVB (V := u :: l) h1
  refine ⟨g r, ?_, h4⟩
  show unT (u :: l) (s.2.unCons (g r) (s.2.cur fun v => cur (u :: l) (fun ρ => ρ) (zJZ ρ s.1 v))).1 (s.2.unCons (g r) (s.2.cur fun v => cur (u :: l) (fun ρ => ρ) (zJZ ρ s.1 v))).2 = ρ
  rw [h2, zKc rfl]
  exact h3
abbrev DW := Ds -> World -> Prop
def hdC : List Code -> Code
 | [] => .skip
 | c :: _ => c
def Kof (l : List zKi) (F : Fn l DW) : EP := fun ρ ds w => zXJ l ρ F fun (p : DW) => p ds w
def POk (P : Program) (n : Nat) (items : List Code) (Q : EQ) (l : List zKi) (F : Fn l DW) : Prop :=
 zJ3 n items = true -> ∀ ρ ds w, Kof l F ρ ds w -> TrL P n items Q ρ ds w
def Rest (P : Program) (n : Nat) (items : List Code) (Q : EQ) (K : EP) : Prop :=
 zJ3 n items = true -> ∀ ρ ds w, K ρ ds w -> TrL P n items Q ρ ds w
variable {n : Nat} {items : List Code} {Q : EQ} {l : List zKi} {F : Fn l DW} {K : EP}
theorem yKh {ρ : Env} {ds : Ds} {w : World} {G : EP} (e : ∀ ρ, F = cur l G ρ) (h : Kof l F ρ ds w) : G ρ ds w := by
 have h : zXJ l ρ F fun (p : DW) => p ds w := h
 rw [e ρ] at h
 exact take_cur (K := fun (p : DW) => p ds w) h
theorem zXz (h : items.isEmpty = true := by kernel_rfl) : Rest P n items Q (Q .normal) := fun _ ρ ds w hK => by
 cases items with
 | nil => exact hK
 | cons c cs => cases h
theorem zQx (l : List zKi) (F : Fn l DW) (h : POk P n items Q l F) : Rest P n items Q (Kof l F) := h
theorem zYe {a b : List Code} (h : zJ3 n (a ++ b) = true) : zJ3 n a = true /\ zJ3 n b = true := by
 simpa [zJ3, List.all_append] using h
theorem zKr : ∀ {c : Code}, zJL n c = true -> zJ3 n (zWN c) = true := by
 intro c
 induction c with
 | seq x y ihx ihy =>
  intro h
  simp only [zJL, Bool.and_eq_true] at h
  have h1 := ihx h.1
  have h2 := ihy h.2
  show zJ3 n (zWN x ++ zWN y) = true
  simp only [zJ3, List.all_append, Bool.and_eq_true] at h1 h2 ⊢
  exact ⟨h1, h2⟩
 | _ => intro h; simp only [zWN, zJ3, List.all_cons, List.all_nil, Bool.and_true]; exact h
theorem lf (e : ∀ ρ, F = cur l (ptL P items Q) ρ := by intro _; kernel_rfl) : POk P n items Q l F := fun hf ρ ds w h => zKs hf (yKh e h)
theorem pc (k : Nat) (hr : Rest P n (items.drop k) Q K) (e : ∀ ρ, F = cur l (ptL P (items.take k) (zJA K Q)) ρ := by intro _; kernel_rfl) : POk P n items Q l F := fun hf ρ ds w h => by
 rw [← List.take_append_drop k items] at hf ⊢
 obtain ⟨h1, h2⟩ := zYe hf
 exact yVF h1 (yKh e h) fun ρ' ds' w' _ _ hK => hr h2 ρ' ds' w' hK
def blkB (id : Nat) : Code -> Bool
 | .block j _ => Nat.beq j id
 | _ => false
def lpB (c : Code) (V lb : List zKi) : Bool := match c with
 | .loop b => zXi b && lb.all fun s => !(zWt b s.1) || V.any fun v => Nat.beq v.1 s.1
 | _ => false
theorem bk (id : Nat) (hr : Rest P n items.tail Q K) (h : POk P n (zWN (yYA (hdC items))) (zYt id (zJA K Q)) l F) (hb : blkB id (hdC items) = true := by kernel_rfl) : POk P n items Q l F := fun hf ρ ds w hK => by
 cases items with
 | nil => cases hb
 | cons c cs =>
  simp only [zJ3, List.all_cons, Bool.and_eq_true] at hf
  cases c with
  | block j b =>
   have hj := Nat.eq_of_beq_eq_true hb
   subst hj
   exact yXh (K := K) (yJn (c := b) rfl rfl (h (zKr (c := b) hf.1) ρ ds w hK)) fun ρ' ds' w' hk => hr hf.2 ρ' ds' w' hk
  | _ => cases hb
theorem lp (V lb : List zKi) (Fb : (Tup V -> World -> Prop) -> Fn lb DW) (hr : Rest P n items.tail Q K)
  (h : ∀ J, POk P n (zWN (yYA (hdC items))) (zJA (fun ρ _ w => zXJ V ρ (mkT V fun s => s) fun s => J s w) (zJA K Q)) lb (Fb J))
  (hc : lpB (hdC items) V lb = true := by kernel_rfl) (e : ∀ ρ, F = cur l (fun ρ ds w => zXJ V ρ (mkT V fun s => s) fun s => zQD (fun J s w => unT V s (cur V (fun ρ => Kof lb (Fb J) ρ ds w) ρ)) s w) ρ := by intro _; kernel_rfl) : POk P n items Q l F := fun hf ρ ds w hK => by
 cases items with
 | nil => cases hc
 | cons c cs =>
  simp only [zJ3, List.all_cons, Bool.and_eq_true] at hf
  cases c with
  | loop b =>
   simp only [hdC, lpB, Bool.and_eq_true] at hc
   obtain ⟨hnd, hlb⟩ := hc
   obtain ⟨s0, hs0, hL⟩ := zVB (yKh e hK)
   refine yXh (K := K) (yVy (c := b) (σ := Tup V) (enc := fun s ρ => setV V s ρ = ρ) (D := fun ρ K => zXJ V ρ (mkT V fun s => s) K) (s0 := s0) rfl rfl hs0 hnd (fun ρ K h => zVB h) (fun J s ρ' w' he ha hF => ?_) hL) fun ρ' ds' w' hk => hr hf.2 ρ' ds' w' hk
   rw [yYo] at hF
   refine h J (zKr (c := b) hf.1) ρ' ds w' (zWv (fun t ht => ?_) hF)
   rw [← he]
   refine zVf ?_
   have h1 := List.all_eq_true.1 hlb t ht
   simp only [Bool.or_eq_true, Bool.not_eq_true', List.any_eq_true] at h1
   rcases h1 with h1 | ⟨v, hv, hb⟩
   ·exact .inr (ha t.1 h1).symm
   ·exact .inl (List.mem_map.2 ⟨v, hv, Nat.eq_of_beq_eq_true hb⟩)
  | _ => cases hc
abbrev Pl (P : Program) (fn : Func) (l : List zKi) (F : Rt -> Fn l DW) : Prop := ∀ R, POk P fn.ntmps (zWN (zZT fn)) (endQ P fn.results.toList R) l (F R)
def topB (fn : Func) (k : Nat) : Bool := fn.body.isSome && (zJL fn.ntmps (zZT fn) && Nat.ble k fn.ntmps)
theorem zYB {fn : Func} {k : Nat} (h : topB fn k = true) : fn.body = some (zZT fn) /\ zJ3 fn.ntmps (zWN (zZT fn)) = true /\ k <= fn.ntmps := by
 simp only [topB, Bool.and_eq_true] at h
 refine ⟨?_, zKr h.2.1, Nat.le_of_ble_eq_true h.2.2⟩
 unfold zZT
 cases hb : fn.body with
 | none => rw [hb] at h; cases h.1
 | some c => rfl
theorem plC {f : FuncId} {fn : Func} {F : Rt -> Fn l DW} {args : Array Value} {R : Rt} {w : World} {X : Prop} (h : Pl P fn l F) (hf : P.funcs[f]? = some fn) (hX : X) (hb : topB fn args.size = true := by kernel_rfl) (e : X = Kof l (F R) (zK4 args.toList) [] w := by kernel_rfl) : Calls P f args w R := by
 obtain ⟨h1, h2, h3⟩ := zYB hb
 exact yZN hf h1 h3 rfl (h R h2 _ _ _ (e ▸ hX))
theorem plD {f : FuncId} {fn : Func} {F : Rt -> Fn l DW} {args : Array Value} {R : Rt} {w : World} {X : Prop} (h : Pl P fn l F) (hf : P.funcs[f]? = some fn) (u : FrameMode) (hX : X) (hb : (topB fn args.size && zXi (zZT fn)) = true := by kernel_rfl) (e : X = Kof l (F R) (zK4 args.toList) [] w := by kernel_rfl) :
  CallsD P f args u w fun e u' w' => u' = u /\ R e w' := by
 simp only [Bool.and_eq_true] at hb
 obtain ⟨h1, h2, h3⟩ := zYB hb.1
 exact yQk hf h1 h3 hb.2 rfl (h R h2 _ _ _ (e ▸ hX)) u
abbrev iS (t : Nat) : zKi := (t, .one (.int .i64))
abbrev kS (k : IntKind) (t : Nat) : zKi := (t, .one (.int k))
abbrev bS (t : Nat) : zKi := (t, .one .bool)
abbrev sS (t : Nat) : zKi := (t, .one .str)
abbrev pS (t : Nat) : zKi := (t, .one .ptr)
abbrev lS (t : Nat) : zKi := (t, .one .slice)
abbrev mS (t : Nat) : zKi := (t, .one .map)
abbrev vS (t : Nat) : zKi := (t, .one .any)
abbrev aS (t : Nat) (ts : List Ty) : zKi := (t, .agg ts)
end Go.Sh
