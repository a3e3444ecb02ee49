import Derived.Test.YtcihcbfcgjepfaaGreatDoorShEight
/- Plans: how a function's code is walked, piece by piece, as one term; each piece's printed text is held against the code by the kernel. For every program. -/
set_option linter.unusedVariables false
namespace Go.Sh
variable {P : Program} {X Y Z : Type}
def Ty.T : Ty -> Type
 | .int _ => Int
 | .bool => Bool
 | .str => ByteArray
 | .ptr => Option Addr
 | .slice => SV
 | .map => Option Nat
 | .any => Value
def Ty.val : (t : Ty) -> t.T -> Value
 | .int k, (n : Int) => .int k n
 | .bool, (b : Bool) => .bool b
 | .str, (s : ByteArray) => .string s
 | .ptr, (p : Option Addr) => .pointer p
 | .slice, (s : SV) => .slice s.a s.len s.cap
 | .map, (m : Option Nat) => .map m
 | .any, (v : Value) => v
def Ty.take : (t : Ty) -> Value -> (t.T -> Prop) -> Prop
 | .int k, v, K => yZY k v K
 | .bool, v, K => dBl v K
 | .str, v, K => dStr v K
 | .ptr, v, K => dPtr v K
 | .slice, v, K => dSl v K
 | .map, v, K => dMap v K
 | .any, v, K => K v
theorem Ty.take_elim : {t : Ty} -> {v : Value} -> {K : t.T -> Prop} -> t.take v K -> ∃ x, v = t.val x /\ K x
 | .int k, v, K, h => zVU (K := K) h
 | .bool, v, K, h => zYV (K := K) h
 | .str, v, K, h => zVZ (K := K) h
 | .ptr, v, K, h => zVq (K := K) h
 | .slice, v, K, h => yQc (K := K) h
 | .map, v, K, h => zV8 (K := K) h
 | .any, v, K, h => ⟨v, rfl, h⟩
abbrev zJL := Nat × Shp
def FnT : List Ty -> Type -> Type
 | [], X => X
 | t :: ts, X => t.T -> FnT ts X
def Shp.F : Shp -> Type -> Type
 | .one t, X => t.T -> X
 | .agg ts, X => FnT ts X
 | .row _, X => Array Value -> X
def Fn : List zJL -> Type -> Type
 | [], X => X
 | s :: l, X => s.2.F (Fn l X)
def zZN : (ts : List Ty) -> List Value -> FnT ts X -> (X -> Prop) -> Prop
 | [], l, F, K => yXV l (K F)
 | t :: ts, l, F, K => dHd l fun v l => t.take v fun x => zZN ts l (F x) K
def Shp.take : (s : Shp) -> Value -> s.F X -> (X -> Prop) -> Prop
 | .one t, v, F, K => Ty.take t v fun x => K (F x)
 | .agg ts, v, F, K => yXQ v fun l => zZN ts l F K
 | .row _, v, F, K => yKo v fun cs => K (F cs)
def zXx : (l : List zJL) -> Env -> Fn l X -> (X -> Prop) -> Prop
 | [], _, F, K => K F
 | s :: l, ρ, F, K => Shp.take s.2 (ρ s.1) F fun F => zXx l ρ F K
def yKn : (ts : List Ty) -> (List Value -> X) -> FnT ts X
 | [], H => H []
 | t :: ts, H => fun x => yKn ts fun vs => H (t.val x :: vs)
def Shp.cur : (s : Shp) -> (Value -> X) -> s.F X
 | .one t, H => fun x => H (t.val x)
 | .agg ts, H => yKn ts fun vs => H (.agg vs.toArray)
 | .row _, H => fun cs => H (.agg cs)
def cur : (l : List zJL) -> (Env -> X) -> Env -> Fn l X
 | [], G, ρ => G ρ
 | s :: l, G, ρ => Shp.cur s.2 fun v => cur l G (zJ9 ρ s.1 v)
theorem zV4 : ∀ {ts : List Ty} {l : List Value} {H : List Value -> X} {K : X -> Prop}, zZN ts l (yKn ts H) K -> K (H l)
 | [], l, H, K, h => by
  have h : yXV l (K (H [])) := h
  obtain ⟨rfl, g1⟩ := zZt h; replace h := g1; exact h
 | t :: ts, l, H, K, h => by
  have h : dHd l fun v l => t.take v fun x => zZN ts l (yKn ts fun vs => H (t.val x :: vs)) K := h
  obtain ⟨v, r, rfl, g2⟩ := zZV h; replace h := g2
  obtain ⟨x, rfl, g3⟩ := Ty.take_elim h; replace h := g3
  exact zV4 (ts := ts) (H := fun vs => H (t.val x :: vs)) h
theorem Shp.take_cur {s : Shp} {v : Value} {H : Value -> X} {K : X -> Prop} (h : Shp.take s v (s.cur H) K) : K (H v) := by
 cases s with
 | one t =>
  have h : Ty.take t v fun x => K (H (t.val x)) := h
  obtain ⟨x, rfl, g4⟩ := Ty.take_elim h; replace h := g4; exact h
 | agg ts =>
  have h : yXQ v fun l => zZN ts l (yKn ts fun vs => H (.agg vs.toArray)) K := h
  obtain ⟨l, rfl, g5⟩ := zZJ h; replace h := g5; exact zV4 (H := fun vs => H (.agg vs.toArray)) h
 | row n =>
  have h : yKo v fun cs => K (H (.agg cs)) := h
  obtain ⟨cs, rfl, g6⟩ := zZK h; replace h := g6; exact h
theorem Ty.take_val {t : Ty} {x : t.T} {K : t.T -> Prop} (h : K x) : t.take (t.val x) K := by
 cases t with
 | int k =>
  show yZY k (.int k x) K
  unfold yZY; simp only [decide_true]; exact h
 | _ => exact h
theorem take_cur : ∀ {l : List zJL} {ρ : Env} {G : Env -> X} {K : X -> Prop}, zXx l ρ (cur l G ρ) K -> K (G ρ)
 | [], _, _, _, h => h
 | s :: l, ρ, G, K, h => by
  have h1 := Shp.take_cur (H := fun v => cur l G (zJ9 ρ s.1 v)) (K := fun F => zXx l ρ F K) h
  rw [zJG rfl] at h1
  exact take_cur h1
theorem zKG : ∀ {l : List zJL} {ρ ρ' : Env} {F : Fn l X} {K : X -> Prop}, (∀ s ∈ l, ρ s.1 = ρ' s.1) -> zXx l ρ F K -> zXx l ρ' F K
 | [], _, _, _, _, _, h => h
 | s :: l, ρ, ρ', F, K, he, h => by
  have h : Shp.take s.2 (ρ s.1) F fun F => zXx l ρ F K := h
  show Shp.take s.2 (ρ' s.1) F fun F => zXx l ρ' F K
  rw [he s (by simp)] at h
  have hl : ∀ F' : Fn l X, zXx l ρ F' K -> zXx l ρ' F' K := fun F' => zKG fun s' hs => he s' (by simp [hs])
  clear he
  obtain ⟨t, sh⟩ := s
  have mono : ∀ (ts : List Ty) (vs : List Value) (F : FnT ts (Fn l X)), zZN ts vs F (fun F => zXx l ρ F K) -> zZN ts vs F (fun F => zXx l ρ' F K) := by
   intro ts
   induction ts with
   | nil =>
    intro vs F h
    have h : yXV vs (zXx l ρ F K) := h
    obtain ⟨rfl, g7⟩ := zZt h; replace h := g7; exact hl _ h
   | cons ty ts ih =>
    intro vs F h
    have h : dHd vs fun v r => ty.take v fun x => zZN ts r (F x) fun F => zXx l ρ F K := h
    obtain ⟨v, r, rfl, g8⟩ := zZV h; replace h := g8
    obtain ⟨x, rfl, g9⟩ := Ty.take_elim h; replace h := g9
    exact Ty.take_val (K := fun x => zZN ts r (F x) fun F => zXx l ρ' F K) (ih r (F x) h)
  cases sh with
  | one ty =>
   have h : Ty.take ty (ρ' t) fun x => zXx l ρ (F x) K := h
   show Ty.take ty (ρ' t) fun x => zXx l ρ' (F x) K
   obtain ⟨x, hx, h⟩ := Ty.take_elim h
   rw [hx]
   exact Ty.take_val (K := fun x => zXx l ρ' (F x) K) (hl (F x) h)
  | agg ts =>
   have h : yXQ (ρ' t) fun vs => zZN ts vs F fun F => zXx l ρ F K := h
   obtain ⟨vs, hv, h⟩ := zZJ h
   show yXQ (ρ' t) fun vs => zZN ts vs F fun F => zXx l ρ' F K
   rw [hv]
   exact mono ts vs F h
  | row n =>
   have h : yKo (ρ' t) fun cs => zXx l ρ (F cs) K := h
   obtain ⟨cs, hv, h⟩ := zZK h
   show yKo (ρ' t) fun cs => zXx l ρ' (F cs) K
   rw [hv]
   exact hl _ h
def zYo : List Ty -> Type -> Type
 | [], X => X
 | t :: ts, X => t.T × zYo ts X
def zYt : List Ty -> Type
 | [] => Unit
 | [t] => t.T
 | t :: u :: ts => t.T × zYt (u :: ts)
def Shp.cons : Shp -> Type -> Type
 | .one t, X => t.T × X
 | .agg ts, X => zYo ts X
 | .row _, X => Array Value × X
def Shp.last : Shp -> Type
 | .one t => t.T
 | .agg ts => zYt ts
 | .row _ => Array Value
def Tup : List zJL -> Type
 | [] => Unit
 | [s] => s.2.last
 | s :: u :: l => s.2.cons (Tup (u :: l))
def zKK : (ts : List Ty) -> zYo ts X -> FnT ts Y -> X × Y
 | [], r, F => (r, F)
 | _ :: ts, p, F => zKK ts p.2 (F p.1)
def zVf : (ts : List Ty) -> zYt ts -> FnT ts Y -> Y
 | [], _, F => F
 | [_], x, F => F x
 | _ :: u :: ts, p, F => zVf (u :: ts) p.2 (F p.1)
def Shp.unCons : (s : Shp) -> s.cons X -> s.F Y -> X × Y
 | .one _, p, F => (p.2, F p.1)
 | .agg ts, p, F => zKK ts p F
 | .row _, p, F => (p.2, F p.1)
def Shp.unLast : (s : Shp) -> s.last -> s.F Y -> Y
 | .one _, x, F => F x
 | .agg ts, x, F => zVf ts x F
 | .row _, x, F => F x
def unT : (V : List zJL) -> Tup V -> Fn V X -> X
 | [], _, F => F
 | [s], x, F => Shp.unLast s.2 x F
 | s :: u :: l, x, F => unT (u :: l) (Shp.unCons s.2 x F).1 (Shp.unCons s.2 x F).2
def zKW : (ts : List Ty) -> ((Y -> zYo ts Y) -> Z) -> FnT ts Z
 | [], H => H fun y => y
 | _ :: ts, H => fun x => zKW ts fun g => H fun y => (x, g y)
def zKU : (ts : List Ty) -> (zYt ts -> Z) -> FnT ts Z
 | [], H => H ()
 | [_], H => fun x => H x
 | _ :: u :: ts, H => fun x => zKU (u :: ts) fun r => H (x, r)
def Shp.mkCons : (s : Shp) -> ((Y -> s.cons Y) -> Z) -> s.F Z
 | .one _, H => fun x => H fun y => (x, y)
 | .agg ts, H => zKW ts H
 | .row _, H => fun x => H fun y => (x, y)
def Shp.mkLast : (s : Shp) -> (s.last -> Z) -> s.F Z
 | .one _, H => fun x => H x
 | .agg ts, H => zKU ts H
 | .row _, H => fun x => H x
def mkT : (V : List zJL) -> (Tup V -> X) -> Fn V X
 | [], k => k ()
 | [s], k => Shp.mkLast s.2 k
 | s :: u :: l, k => Shp.mkCons s.2 fun g => mkT (u :: l) fun r => k (g r)
def setV (V : List zJL) (s : Tup V) (ρ : Env) : Env := unT V s (cur V (fun ρ => ρ) ρ)
theorem zK3 : ∀ {ts : List Ty} {p : zYo ts X}, ∃ vs, ∀ {Y : Type} {H : List Value -> Y}, zKK ts p (yKn ts H) = ((zKK ts p (yKn ts fun _ => ())).1, H vs)
 | [], p => ⟨[], rfl⟩
 | t :: ts, p => by
  obtain ⟨vs, h⟩ := zK3 (ts := ts) (p := p.2)
  exact ⟨t.val p.1 :: vs, fun {Y H} => h (H := fun vs => H (t.val p.1 :: vs))⟩
theorem zKB : ∀ {ts : List Ty} {p : zYt ts}, ∃ vs, ∀ {Y : Type} {H : List Value -> Y}, zVf ts p (yKn ts H) = H vs
 | [], p => ⟨[], rfl⟩
 | [t], x => ⟨[t.val x], rfl⟩
 | t :: u :: ts, p => by
  obtain ⟨vs, h⟩ := zKB (ts := u :: ts) (p := p.2)
  exact ⟨t.val p.1 :: vs, fun {Y H} => h (H := fun vs => H (t.val p.1 :: vs))⟩
theorem zWB {s : Shp} {p : s.cons X} : ∃ r v, ∀ {Y : Type} {H : Value -> Y}, s.unCons p (s.cur H) = (r, H v) := by
 cases s with
 | one t => exact ⟨p.2, t.val p.1, rfl⟩
 | agg ts => obtain ⟨vs, h⟩ := zK3 (ts := ts) (p := p); exact ⟨_, .agg vs.toArray, h⟩
 | row n => exact ⟨p.2, .agg p.1, rfl⟩
theorem zW8 {s : Shp} {p : s.last} : ∃ v, ∀ {Y : Type} {H : Value -> Y}, s.unLast p (s.cur H) = H v := by
 cases s with
 | one t => exact ⟨t.val p, rfl⟩
 | agg ts => obtain ⟨vs, h⟩ := zKB (ts := ts) (p := p); exact ⟨.agg vs.toArray, h⟩
 | row n => exact ⟨.agg p, rfl⟩
theorem yVL : ∀ {V : List zJL} {s : Tup V} {X : Type} {G : Env -> X} {ρ : Env}, unT V s (cur V G ρ) = G (setV V s ρ)
 | [], _, _, _, _ => rfl
 | [s], x, X, G, ρ => by
  obtain ⟨v, h⟩ := zW8 (s := s.2) (p := x)
  show s.2.unLast x (s.2.cur fun v => G (zJ9 ρ s.1 v)) = G (s.2.unLast x (s.2.cur fun v => zJ9 ρ s.1 v))
  rw [h, h]
 | s :: u :: l, x, X, G, ρ => by
  obtain ⟨r, v, h⟩ := zWB (s := s.2) (p := x)
  show unT (u :: l) (s.2.unCons x (s.2.cur fun v => cur (u :: l) G (zJ9 ρ s.1 v))).1 (s.2.unCons x (s.2.cur fun v => cur (u :: l) G (zJ9 ρ s.1 v))).2 = G (unT (u :: l) (s.2.unCons x (s.2.cur fun v => cur (u :: l) (fun ρ => ρ) (zJ9 ρ s.1 v))).1 (s.2.unCons x (s.2.cur fun v => cur (u :: l) (fun ρ => ρ) (zJ9 ρ s.1 v))).2)
  rw [h, h]
  exact yVL (V := u :: l)
theorem zWv : ∀ {V : List zJL} {s : Tup V} {ρ ρ' : Env} {t : Nat}, (t ∈ V.map Prod.fst ∨ ρ t = ρ' t) -> setV V s ρ t = setV V s ρ' t
 | [], _, _, _, _, h => h.elim (fun h => by cases h) id
 | [s], x, ρ, ρ', t, h => by
  obtain ⟨v, hv⟩ := zW8 (s := s.2) (p := x)
  show s.2.unLast x (s.2.cur fun v => zJ9 ρ s.1 v) t = s.2.unLast x (s.2.cur fun v => zJ9 ρ' s.1 v) t
  rw [hv, hv]
  unfold zJ9
  cases hb : Nat.beq t s.1 with
  | true => rfl
  | false =>
   rcases h with h | h
   ·simp only [List.map_cons, List.map_nil, List.mem_singleton] at h
    rw [h, Nat.beq_refl] at hb; cases hb
   ·exact h
 | s :: u :: l, x, ρ, ρ', t, h => by
  obtain ⟨r, v, hv⟩ := zWB (s := s.2) (p := x)
  show unT (u :: l) (s.2.unCons x (s.2.cur fun v => cur (u :: l) (fun ρ => ρ) (zJ9 ρ s.1 v))).1 (s.2.unCons x (s.2.cur fun v => cur (u :: l) (fun ρ => ρ) (zJ9 ρ s.1 v))).2 t = unT (u :: l) (s.2.unCons x (s.2.cur fun v => cur (u :: l) (fun ρ => ρ) (zJ9 ρ' s.1 v))).1 (s.2.unCons x (s.2.cur fun v => cur (u :: l) (fun ρ => ρ) (zJ9 ρ' s.1 v))).2 t
  rw [hv, hv]
  refine zWv (V := u :: l) (s := r) (ρ := zJ9 ρ s.1 v) (ρ' := zJ9 ρ' s.1 v) ?_
  unfold zJ9
  cases hb : Nat.beq t s.1 with
  | true => exact .inr rfl
  | false =>
   rcases h with h | h
   ·rw [List.map_cons, List.mem_cons] at h
    rcases h with h | h
    ·rw [h, Nat.beq_refl] at hb; cases hb
    ·exact .inl h
   ·exact .inr h
theorem zKe : ∀ {ts : List Ty} {l : List Value} {H : (X -> zYo ts X) -> Z} {K : Z -> Prop}, zZN ts l (zKW ts H) K -> ∃ g : X -> zYo ts X, K (H g) /\ ∀ x {Y : Type} {G : List Value -> Y}, zKK ts (g x) (yKn ts G) = (x, G l)
 | [], l, H, K, h => by
  have h : yXV l (K (H fun y => y)) := h
  obtain ⟨rfl, g10⟩ := zZt h; replace h := g10; exact ⟨_, h, fun x => rfl⟩
 | t :: ts, l, H, K, h => by
  have h : dHd l fun v l => t.take v fun x => zZN ts l (zKW ts fun g => H fun y => (x, g y)) K := h
  obtain ⟨v, r, rfl, g11⟩ := zZV h; replace h := g11
  obtain ⟨x, rfl, g12⟩ := Ty.take_elim h; replace h := g12
  obtain ⟨g, h1, h2⟩ := zKe (ts := ts) (H := fun g => H fun y => (x, g y)) h
  exact ⟨_, h1, fun y {Y G} => h2 y (G := fun vs => G (t.val x :: vs))⟩
theorem zKg : ∀ {ts : List Ty} {l : List Value} {H : zYt ts -> Z} {K : Z -> Prop}, zZN ts l (zKU ts H) K -> ∃ g : zYt ts, K (H g) /\ ∀ {Y : Type} {G : List Value -> Y}, zVf ts g (yKn ts G) = G l
 | [], l, H, K, h => by
  have h : yXV l (K (H ())) := h
  obtain ⟨rfl, g13⟩ := zZt h; replace h := g13; exact ⟨(), h, rfl⟩
 | [t], l, H, K, h => by
  have h : dHd l fun v l => t.take v fun x => yXV l (K (H x)) := h
  obtain ⟨v, r, rfl, g14⟩ := zZV h; replace h := g14
  obtain ⟨x, rfl, g15⟩ := Ty.take_elim h; replace h := g15
  obtain ⟨rfl, g16⟩ := zZt h; replace h := g16
  exact ⟨x, h, rfl⟩
 | t :: u :: ts, l, H, K, h => by
  have h : dHd l fun v l => t.take v fun x => zZN (u :: ts) l (zKU (u :: ts) fun r => H (x, r)) K := h
  obtain ⟨v, r, rfl, g17⟩ := zZV h; replace h := g17
  obtain ⟨x, rfl, g18⟩ := Ty.take_elim h; replace h := g18
  obtain ⟨g, h1, h2⟩ := zKg (ts := u :: ts) (H := fun r => H (x, r)) h
  exact ⟨_, h1, fun {Y G} => h2 (G := fun vs => G (t.val x :: vs))⟩
theorem zY5 {s : Shp} {v : Value} {H : (X -> s.cons X) -> Z} {K : Z -> Prop} (h : Shp.take s v (s.mkCons H) K) : ∃ g : X -> s.cons X, K (H g) /\ ∀ x {Y : Type} {G : Value -> Y}, s.unCons (g x) (s.cur G) = (x, G v) := by
 cases s with
 | one t =>
  have h : Ty.take t v fun x => K (H fun y => (x, y)) := h
  obtain ⟨x, rfl, g19⟩ := Ty.take_elim h; replace h := g19; exact ⟨_, h, fun y => rfl⟩
 | agg ts =>
  have h : yXQ v fun l => zZN ts l (zKW ts H) K := h
  obtain ⟨l, rfl, g20⟩ := zZJ h; replace h := g20
  obtain ⟨g, h1, h2⟩ := zKe h; exact ⟨g, h1, fun x {Y G} => h2 x (G := fun vs => G (.agg vs.toArray))⟩
 | row n =>
  have h : yKo v fun x => K (H fun y => (x, y)) := h
  obtain ⟨cs, rfl, g21⟩ := zZK h; replace h := g21; exact ⟨_, h, fun y => rfl⟩
theorem zYk {s : Shp} {v : Value} {H : s.last -> Z} {K : Z -> Prop} (h : Shp.take s v (s.mkLast H) K) : ∃ g : s.last, K (H g) /\ ∀ {Y : Type} {G : Value -> Y}, s.unLast g (s.cur G) = G v := by
 cases s with
 | one t =>
  have h : Ty.take t v fun x => K (H x) := h
  obtain ⟨x, rfl, g22⟩ := Ty.take_elim h; replace h := g22; exact ⟨_, h, rfl⟩
 | agg ts =>
  have h : yXQ v fun l => zZN ts l (zKU ts H) K := h
  obtain ⟨l, rfl, g23⟩ := zZJ h; replace h := g23
  obtain ⟨g, h1, h2⟩ := zKg h; exact ⟨g, h1, fun {Y G} => h2 (G := fun vs => G (.agg vs.toArray))⟩
 | row n =>
  have h : yKo v fun x => K (H x) := h
  obtain ⟨cs, rfl, g24⟩ := zZK h; replace h := g24; exact ⟨_, h, rfl⟩
theorem zVi : ∀ {V : List zJL} {ρ : Env} {X : Type} {k : Tup V -> X} {K : X -> Prop}, zXx V ρ (mkT V k) K -> ∃ s, setV V s ρ = ρ /\ K (k s)
 | [], ρ, X, k, K, h => ⟨(), rfl, h⟩
 | [s], ρ, X, k, K, h => by
  obtain ⟨g, h1, h2⟩ := zYk (s := s.2) (K := K) h
  refine ⟨g, ?_, h1⟩
  show s.2.unLast g (s.2.cur fun v => zJ9 ρ s.1 v) = ρ
  rw [h2]; exact zJG rfl
 | s :: u :: l, ρ, X, k, K, h => by
  obtain ⟨g, h1, h2⟩ := zY5 (s := s.2) (K := fun F => zXx (u :: l) ρ F K) h
  obtain ⟨r, h3, h4⟩ := zVi (V := u :: l) h1
  refine ⟨g r, ?_, h4⟩
  show unT (u :: l) (s.2.unCons (g r) (s.2.cur fun v => cur (u :: l) (fun ρ => ρ) (zJ9 ρ s.1 v))).1 (s.2.unCons (g r) (s.2.cur fun v => cur (u :: l) (fun ρ => ρ) (zJ9 ρ s.1 v))).2 = ρ
  rw [h2, zJG rfl]
  exact h3
abbrev DW := Ds -> World -> Prop
def hdC : List Code -> Code
 | [] => .skip
 | c :: _ => c
def Kof (l : List zJL) (F : Fn l DW) : EP := fun ρ ds w => zXx l ρ F fun (p : DW) => p ds w
def POk (P : Program) (n : Nat) (items : List Code) (Q : EQ) (l : List zJL) (F : Fn l DW) : Prop :=
 zJc n items = true -> ∀ ρ ds w, Kof l F ρ ds w -> TrL P n items Q ρ ds w
def Rest (P : Program) (n : Nat) (items : List Code) (Q : EQ) (K : EP) : Prop :=
 zJc n items = true -> ∀ ρ ds w, K ρ ds w -> TrL P n items Q ρ ds w
variable {n : Nat} {items : List Code} {Q : EQ} {l : List zJL} {F : Fn l DW} {K : EP}
theorem yXY {ρ : Env} {ds : Ds} {w : World} {G : EP} (e : ∀ ρ, F = cur l G ρ) (h : Kof l F ρ ds w) : G ρ ds w := by
 have h : zXx l ρ F fun (p : DW) => p ds w := h
 rw [e ρ] at h
 exact take_cur (K := fun (p : DW) => p ds w) h
theorem zZb (h : items.isEmpty = true := by kernel_rfl) : Rest P n items Q (Q .normal) := fun _ ρ ds w hK => by
 cases items with
 | nil => exact hK
 | cons c cs => cases h
theorem zQ1 (l : List zJL) (F : Fn l DW) (h : POk P n items Q l F) : Rest P n items Q (Kof l F) := h
theorem zV3 {a b : List Code} (h : zJc n (a ++ b) = true) : zJc n a = true /\ zJc n b = true := by
 simpa [zJc, List.all_append] using h
theorem zJU : ∀ {c : Code}, zJw n c = true -> zJc n (zWb c) = true := by
 intro c
 induction c with
 | seq x y ihx ihy =>
  intro h
  simp only [zJw, Bool.and_eq_true] at h
  have h1 := ihx h.1
  have h2 := ihy h.2
  show zJc n (zWb x ++ zWb y) = true
  simp only [zJc, List.all_append, Bool.and_eq_true] at h1 h2 ⊢
  exact ⟨h1, h2⟩
 | _ => intro h; simp only [zWb, zJc, List.all_cons, List.all_nil, Bool.and_true]; exact h
theorem lf (e : ∀ ρ, F = cur l (ptL P items Q) ρ := by intro _; kernel_rfl) : POk P n items Q l F := fun hf ρ ds w h => zJT hf (yXY e h)
theorem pc (k : Nat) (hr : Rest P n (items.drop k) Q K) (e : ∀ ρ, F = cur l (ptL P (items.take k) (zJq K Q)) ρ := by intro _; kernel_rfl) : POk P n items Q l F := fun hf ρ ds w h => by
 rw [← List.take_append_drop k items] at hf ⊢
 obtain ⟨h1, h2⟩ := zV3 hf
 exact yKT h1 (yXY e h) fun ρ' ds' w' _ _ hK => hr h2 ρ' ds' w' hK
def blkB (id : Nat) : Code -> Bool
 | .block j _ => Nat.beq j id
 | _ => false
def lpB (c : Code) (V lb : List zJL) : Bool := match c with
 | .loop b => zQP b && lb.all fun s => !(zK5 b s.1) || V.any fun v => Nat.beq v.1 s.1
 | _ => false
theorem bk (id : Nat) (hr : Rest P n items.tail Q K) (h : POk P n (zWb (yVr (hdC items))) (zVL id (zJq K Q)) l F) (hb : blkB id (hdC items) = true := by kernel_rfl) : POk P n items Q l F := fun hf ρ ds w hK => by
 cases items with
 | nil => cases hb
 | cons c cs =>
  simp only [zJc, List.all_cons, Bool.and_eq_true] at hf
  cases c with
  | block j b =>
   have hj := Nat.eq_of_beq_eq_true hb
   subst hj
   exact zYZ (K := K) (yZa (c := b) rfl rfl (h (zJU (c := b) hf.1) ρ ds w hK)) fun ρ' ds' w' hk => hr hf.2 ρ' ds' w' hk
  | _ => cases hb
theorem lp (V lb : List zJL) (Fb : (Tup V -> World -> Prop) -> Fn lb DW) (hr : Rest P n items.tail Q K)
  (h : ∀ J, POk P n (zWb (yVr (hdC items))) (zJq (fun ρ _ w => zXx V ρ (mkT V fun s => s) fun s => J s w) (zJq K Q)) lb (Fb J))
  (hc : lpB (hdC items) V lb = true := by kernel_rfl) (e : ∀ ρ, F = cur l (fun ρ ds w => zXx V ρ (mkT V fun s => s) fun s => zQJ (fun J s w => unT V s (cur V (fun ρ => Kof lb (Fb J) ρ ds w) ρ)) s w) ρ := by intro _; kernel_rfl) : POk P n items Q l F := fun hf ρ ds w hK => by
 cases items with
 | nil => cases hc
 | cons c cs =>
  simp only [zJc, List.all_cons, Bool.and_eq_true] at hf
  cases c with
  | loop b =>
   simp only [hdC, lpB, Bool.and_eq_true] at hc
   obtain ⟨hnd, hlb⟩ := hc
   obtain ⟨s0, hs0, hL⟩ := zVi (yXY e hK)
   refine zYZ (K := K) (yK0 (c := b) (σ := Tup V) (enc := fun s ρ => setV V s ρ = ρ) (D := fun ρ K => zXx V ρ (mkT V fun s => s) K) (s0 := s0) rfl rfl hs0 hnd (fun ρ K h => zVi h) (fun J s ρ' w' he ha hF => ?_) hL) fun ρ' ds' w' hk => hr hf.2 ρ' ds' w' hk
   rw [yVL] at hF
   refine h J (zJU (c := b) hf.1) ρ' ds w' (zKG (fun t ht => ?_) hF)
   rw [← he]
   refine zWv ?_
   have h1 := List.all_eq_true.1 hlb t ht
   simp only [Bool.or_eq_true, Bool.not_eq_true', List.any_eq_true] at h1
   rcases h1 with h1 | ⟨v, hv, hb⟩
   ·exact .inr (ha t.1 h1).symm
   ·exact .inl (List.mem_map.2 ⟨v, hv, Nat.eq_of_beq_eq_true hb⟩)
  | _ => cases hc
abbrev Pl (P : Program) (fn : Func) (l : List zJL) (F : Rt -> Fn l DW) : Prop := ∀ R, POk P fn.ntmps (zWb (zZL fn)) (endQ P fn.results.toList R) l (F R)
def topB (fn : Func) (k : Nat) : Bool := fn.body.isSome && (zJw fn.ntmps (zZL fn) && Nat.ble k fn.ntmps)
theorem zVu {fn : Func} {k : Nat} (h : topB fn k = true) : fn.body = some (zZL fn) /\ zJc fn.ntmps (zWb (zZL fn)) = true /\ k <= fn.ntmps := by
 simp only [topB, Bool.and_eq_true] at h
 refine ⟨?_, zJU h.2.1, Nat.le_of_ble_eq_true h.2.2⟩
 unfold zZL
 cases hb : fn.body with
 | none => rw [hb] at h; cases h.1
 | some c => rfl
theorem plC {f : FuncId} {fn : Func} {F : Rt -> Fn l DW} {args : Array Value} {R : Rt} {w : World} {X : Prop} (h : Pl P fn l F) (hf : P.funcs[f]? = some fn) (hX : X) (hb : topB fn args.size = true := by kernel_rfl) (e : X = Kof l (F R) (zKo args.toList) [] w := by kernel_rfl) : Calls P f args w R := by
 obtain ⟨h1, h2, h3⟩ := zVu hb
 exact yX5 hf h1 h3 rfl (h R h2 _ _ _ (e ▸ hX))
theorem plD {f : FuncId} {fn : Func} {F : Rt -> Fn l DW} {args : Array Value} {R : Rt} {w : World} {X : Prop} (h : Pl P fn l F) (hf : P.funcs[f]? = some fn) (u : FrameMode) (hX : X) (hb : (topB fn args.size && zQP (zZL fn)) = true := by kernel_rfl) (e : X = Kof l (F R) (zKo args.toList) [] w := by kernel_rfl) :
  CallsD P f args u w fun e u' w' => u' = u /\ R e w' := by
 simp only [Bool.and_eq_true] at hb
 obtain ⟨h1, h2, h3⟩ := zVu hb.1
 exact zY8 hf h1 h3 hb.2 rfl (h R h2 _ _ _ (e ▸ hX)) u
abbrev iS (t : Nat) : zJL := (t, .one (.int .i64))
abbrev kS (k : IntKind) (t : Nat) : zJL := (t, .one (.int k))
abbrev bS (t : Nat) : zJL := (t, .one .bool)
abbrev sS (t : Nat) : zJL := (t, .one .str)
abbrev pS (t : Nat) : zJL := (t, .one .ptr)
abbrev lS (t : Nat) : zJL := (t, .one .slice)
abbrev mS (t : Nat) : zJL := (t, .one .map)
abbrev vS (t : Nat) : zJL := (t, .one .any)
abbrev aS (t : Nat) (ts : List Ty) : zJL := (t, .agg ts)
end Go.Sh
