import Derived.Test.YtcihcbfcgjepfaaGreatDoorBfOwB
import Derived.Test.YtcihcbfcgjepfaaGreatDoorBfPrA
import Derived.Test.YtcihcbfcgjepfaaGreatDoorShFourteen
import Derived.Test.YtcihcbfcgjepfaaGreatDoorShTwentyOne
import Derived.Test.YtcihcbfcgjepfaaGreatDoorShTwentyFive
import Derived.Laws.LoneSync
import Derived.Test.YtcihcbfcgjepfaaGreatDoorShTwentyTwo
/- Desks: changes that are stored at once make the table that direct ones do; those that are thrown away make none. In plain words. No condition but those stated. -/
set_option linter.unusedVariables false
set_option linter.unusedSimpArgs false
namespace Go.Proofs.YtcihcbfcgjepfaaGreatDoor
open Go.Sh Go.RowKit Tryz
def so (t : Tbl) (recs : List Rec) (x : Usr) (lk : Int -> Option Int) : Dsk := ⟨t.page, t.fields, recs, fun u => if u = 0 then x else Usr.new, lk⟩
variable {t : Tbl} {recs A B : List Rec} {x y : Usr} {lk lk' : Int -> Option Int} {ch : List (Int × (Rec × Rec))} {m k k0 : Int} {a b c σ : Dsk}
theorem yWM (t : Tbl) : Dsk.new t = so t t.recs Usr.new (fun _ => none) := by
 simp only [Dsk.new, so, Dsk.mk.injEq, true_and, and_true]
 funext u
 split <;> rfl
theorem zJj : (so t recs x lk).setU 0 y = so t recs y lk := by
 simp only [so, Dsk.setU, Dsk.mk.injEq, true_and, and_true]
 funext u; by_cases e : u = 0 <;> simp [e]
theorem yQQ : (so t recs x lk).us 0 = x := rfl
def Lk0 (lk : Int -> Option Int) : Prop := ∀ k v, lk k = some v -> v = 0
structure Bf (A B : List Rec) (ch : List (Int × (Rec × Rec))) : Prop where
 len : A.length = B.length
 has : ∀ (i : Nat) (c : Rec × Rec), AL.get ch ((i : Int) + 1) = some c -> A[i]? = some c.1 /\ B[i]? = some c.2
 no : ∀ i : Nat, AL.get ch ((i : Int) + 1) = none -> A[i]? = B[i]?
theorem Bf.nil (B : List Rec) : Bf B B [] := ⟨rfl, fun i c h => by simp [AL.get] at h, fun i _ => rfl⟩
theorem yQy : ∀ {a b : List Val}, a.length = b.length -> zKs a b a = b
 | [], [], _ => rfl
 | [], _ :: _, h => by simp at h
 | _ :: _, [], h => by simp at h
 | x :: a, y :: b, h => by
  simp only [zKs, yQy (a := a) (b := b) (by simpa using h)]
  congr 1
  split
  ·assumption
  ·rfl
theorem yXG {a b : Rec} (h : a.v.length = b.v.length) : zZl (a, b) a = b := by
 obtain ⟨g1, v1⟩ := a
 obtain ⟨g2, v2⟩ := b
 simp only [zZl, yQy h, Rec.mk.injEq, and_true]
 split
 ·assumption
 ·rfl
theorem Bf.apply (h : Bf A B ch) {n : Nat} (hv : ∀ r ∈ A, r.v.length = n) (hw : ∀ r ∈ B, r.v.length = n) : zXf ch A = B := by
 refine List.ext_getElem? fun i => ?_
 unfold zXf
 rw [List.getElem?_mapIdx]
 cases hA : A[i]? with
 | none =>
  have h1 := List.getElem?_eq_none_iff.1 hA
  rw [List.getElem?_eq_none (by have := h.len; omega)]; rfl
 | some r =>
  simp only [Option.map_some]
  cases hg : AL.get ch ((i : Int) + 1) with
  | none => rw [← h.no i hg, hA]
  | some c =>
   obtain ⟨h1, h2⟩ := h.has i c hg
   rw [h2]
   rw [hA] at h1
   have e1 : r = c.1 := Option.some.inj h1
   subst e1
   show some (zZl (c.1, c.2) c.1) = some c.2
   rw [yXG ((hv _ (List.mem_of_getElem? hA)).trans (hw _ (List.mem_of_getElem? h2)).symm)]
theorem Bf.clash (h : Bf A B ch) (hr : σ.recs = A) (hc : (σ.us 0).ch = ch) : zJA σ 0 = [] := by
 unfold zJA
 rw [hc, List.filter_eq_nil_iff]
 intro i _
 cases hg : AL.get ch ((i : Int) + 1) with
 | none => simp
 | some c =>
  obtain ⟨h1, _⟩ := h.has i c hg
  have e : zJJ σ ((i : Int) + 1) = c.1 := by
   unfold zJJ
   rw [hr, show ((i : Int) + 1 - 1).toNat = i by omega, List.getD_eq_getElem?_getD, h1]; rfl
  show ¬ (zVA _ _ _ || zZ6 c.1.v c.2.v (zJJ σ ((i : Int) + 1)).v) = true
  rw [zZA, Bool.false_or, e, zVt]
  ·simp
  ·intro m x y z h1 _ h3
   right
   rw [h1] at h3; exact (Option.some.inj h3).symm
theorem yKL {u : Nat} (h : ∀ k v, σ.lk k = some v -> v = (u : Int)) : zY9 σ u = false := by
 unfold zY9
 rw [List.any_eq_false]
 intro c _
 cases hk : σ.lk c.1 with
 | none => simp
 | some v => simp [h _ _ hk]
theorem zKM (h : Bf A B ch) (hl : Lk0 lk) : zXN 0 false (so t A ⟨m, k, ch, []⟩ lk) = 0 := by
 unfold zXN
 rw [h.clash (σ := so t A ⟨m, k, ch, []⟩ lk) rfl rfl, yKL (σ := so t A ⟨m, k, ch, []⟩ lk) (u := 0) hl]
 simp
theorem yKK : ∃ lk', Lk0 lk' /\ zXG 0 (so t A x lk) = so t A ⟨x.mode, x.at_, [], []⟩ lk' ∨ ¬ Lk0 lk := by
 by_cases h : Lk0 lk
 ·refine ⟨fun k => if lk k = some ((0 : Nat) : Int) then none else lk k, .inl ⟨fun k v hv => ?_, ?_⟩⟩
  ·have hv : (if lk k = some ((0 : Nat) : Int) then none else lk k) = some v := hv
   split at hv
   ·cases hv
   ·exact h k v hv
  ·unfold zXG
   rw [zJj]
   rfl
 ·exact ⟨lk, .inr h⟩
theorem zW7 (h : Lk0 lk) : ∃ lk', Lk0 lk' /\ zXG 0 (so t A x lk) = so t A ⟨x.mode, x.at_, [], []⟩ lk' := by
 obtain ⟨lk', h1 | h1⟩ := yKK (t := t) (A := A) (x := x) (lk := lk)
 ·exact ⟨lk', h1⟩
 ·exact absurd h h1
theorem zV0 (h : Bf A B ch) (hl : Lk0 lk) {n : Nat} (hv : ∀ r ∈ A, r.v.length = n) (hw : ∀ r ∈ B, r.v.length = n) (hk : 0 <= k) : ∃ lk', Lk0 lk' /\ zXr 0 (so t A ⟨m, k, ch, []⟩ lk) = so t B ⟨m, k, [], []⟩ lk' := by
 have e : zXr 0 (so t A ⟨m, k, ch, []⟩ lk) = zXG 0 (so t B ⟨m, k, ch, []⟩ lk) := by
  unfold zXr
  show zXG 0 (Dsk.setU { so t A ⟨m, k, ch, []⟩ lk with recs := zXf ch A ++ [] } 0 ⟨m, if k < 0 then (A.length : Int) - k else k, ch, []⟩) = _
  rw [if_neg (by omega), List.append_nil, h.apply hv hw]
  exact congrArg (zXG 0) (zJj (t := t) (recs := B))
 rw [e]
 exact zW7 hl
def Sim (m : Int) (t : Tbl) (k : Int) (a b c : Dsk) : Prop := ∃ A B ch ch' lk lk', a = so t A ⟨m, k, ch, []⟩ lk /\ b = so t B ⟨0, k, [], []⟩ (fun _ => none) /\ c = so t t.recs ⟨m, k, ch', []⟩ lk' /\ Bf A B ch /\ Lk0 lk /\ Lk0 lk' /\ B.length = t.recs.length /\ 0 <= k /\ k <= t.recs.length
def Cl (m : Int) (c : Dsk) : Prop := m < 3 -> (c.us 0).ch = []
theorem yJd : zWk (so t recs ⟨m, k0, ch, []⟩ lk) 0 k = none ↔ ¬ (1 <= k /\ k <= recs.length) := by
 unfold zWk
 by_cases h : k < 0
 ·rw [if_pos h]
  constructor
  ·intro _ h2; omega
  ·intro _; rfl
 ·rw [if_neg h]
  show (if k < 1 ∨ k > recs.length then none else _) = none ↔ _
  by_cases h2 : k < 1 ∨ k > recs.length
  ·rw [if_pos h2]
   exact ⟨fun _ h3 => by omega, fun _ => rfl⟩
  ·rw [if_neg h2]
   constructor
   ·intro h3
    split at h3
    ·cases h3
    ·rw [show (so t recs ⟨m, k0, ch, []⟩ lk).recs = recs from rfl, List.getElem?_eq_getElem (by omega)] at h3
     cases h3
   ·intro h3; exact absurd (by omega : 1 <= k /\ k <= recs.length) h3
theorem yZN (h : ¬ (1 <= k /\ k <= recs.length)) : goC 0 k (so t recs ⟨m, k0, ch, []⟩ lk) = 4 /\ goS 0 k (so t recs ⟨m, k0, ch, []⟩ lk) = so t recs ⟨m, k0, ch, []⟩ lk := by
 have e : goC 0 k (so t recs ⟨m, k0, ch, []⟩ lk) = 4 := by
  unfold goC
  rw [if_neg (by decide)]
  show (if zWk _ 0 k = none then _ else _) = _
  rw [if_pos (yJd.2 h)]
 exact ⟨e, by unfold goS; rw [if_pos (by rw [e]; decide)]⟩
theorem yJF (h : 1 <= k /\ k <= recs.length) (hl : zXy 0 (so t recs ⟨m, k0, ch, []⟩ lk) = 0) : goC 0 k (so t recs ⟨m, k0, ch, []⟩ lk) = 0 /\
  goS 0 k (so t recs ⟨m, k0, ch, []⟩ lk) = (let σ' := if k = k0 then so t recs ⟨m, k0, ch, []⟩ lk else zXi 0 (so t recs ⟨m, k0, ch, []⟩ lk); σ'.setU 0 { σ'.us 0 with at_ := k }) := by
 have e : goC 0 k (so t recs ⟨m, k0, ch, []⟩ lk) = 0 := by
  unfold goC
  rw [if_neg (by decide)]
  show (if zWk _ 0 k = none then _ else if k = k0 then 0 else zXy 0 _) = _
  rw [if_neg fun e => yJd.1 e h, hl]
  simp
 refine ⟨e, ?_⟩
 unfold goS
 rw [if_neg (by rw [e]; simp)]
 rfl
theorem zV1 (h : (⟨m, k0, ch, []⟩ : Usr).rows = false ∨ ch = []) : zXy 0 (so t recs ⟨m, k0, ch, []⟩ lk) = 0 /\ zXi 0 (so t recs ⟨m, k0, ch, []⟩ lk) = so t recs ⟨m, k0, ch, []⟩ lk := by
 have h2 : ((so t recs ⟨m, k0, ch, []⟩ lk).us 0).rows = false ∨ ((so t recs ⟨m, k0, ch, []⟩ lk).us 0).emp = true := by
  rw [yQQ]
  rcases h with h | h
  ·exact .inl h
  ·subst h; exact .inr rfl
 unfold zXy zXi
 rw [if_pos h2, if_pos h2]
 exact ⟨rfl, rfl⟩
theorem yYG (h : 3 <= m) : (⟨m, k0, ch, []⟩ : Usr).rows = false := by
 unfold Usr.rows
 rw [decide_eq_false (show ¬ m = 1 by omega), decide_eq_false (show ¬ m = 2 by omega)]; rfl
theorem st_go (hS : Sim m t k0 a b c) (hC : Cl m c) (Ia : Inv a) (Ib : Inv b) (k : Int) : goC 0 k a = goC 0 k b /\ goC 0 k c = goC 0 k b /\
  ((goC 0 k b ≠ 0 /\ goS 0 k a = a /\ goS 0 k b = b /\ goS 0 k c = c) ∨ (goC 0 k b = 0 /\ 1 <= k /\ Sim m t k (goS 0 k a) (goS 0 k b) (goS 0 k c) /\ Cl m (goS 0 k c))) := by
 obtain ⟨A, B, ch, ch', lk, lk', rfl, rfl, rfl, hB, l1, l2, hL, hk0, hk1⟩ := hS
 have eA : A.length = t.recs.length := hB.len.trans hL
 by_cases h : 1 <= k /\ k <= t.recs.length
 ·have bl := zV1 (t := t) (recs := B) (m := 0) (k0 := k0) (ch := []) (lk := fun _ => none) (.inr rfl)
  obtain ⟨b1, b2⟩ := yJF (t := t) (recs := B) (m := 0) (k0 := k0) (ch := []) (lk := fun _ => none) (k := k) (by omega) bl.1
  have cl : (⟨m, k0, ch', []⟩ : Usr).rows = false ∨ ch' = [] := by
   by_cases h3 : m < 3
   ·exact .inr (hC h3)
   ·exact .inl (yYG (by omega))
  have cl2 := zV1 (t := t) (recs := t.recs) (m := m) (k0 := k0) (ch := ch') (lk := lk') cl
  obtain ⟨c1, c2⟩ := yJF (t := t) (recs := t.recs) (m := m) (k0 := k0) (ch := ch') (lk := lk') (k := k) (by omega) cl2.1
  have al : zXy 0 (so t A ⟨m, k0, ch, []⟩ lk) = 0 := by
   unfold zXy
   split
   ·rfl
   ·exact zKM hB l1
  obtain ⟨a1, a2⟩ := yJF (t := t) (recs := A) (m := m) (k0 := k0) (ch := ch) (lk := lk) (k := k) (by omega) al
  have eb : goS 0 k (so t B ⟨0, k0, [], []⟩ fun _ => none) = so t B ⟨0, k, [], []⟩ fun _ => none := by
   rw [b2, bl.2]
   simp only [ite_self]
   rw [yQQ, zJj]
  have ec : goS 0 k (so t t.recs ⟨m, k0, ch', []⟩ lk') = so t t.recs ⟨m, k, ch', []⟩ lk' := by
   rw [c2, cl2.2]
   simp only [ite_self]
   rw [yQQ, zJj]
  have ea : ∃ A' ch2 lk2, goS 0 k (so t A ⟨m, k0, ch, []⟩ lk) = so t A' ⟨m, k, ch2, []⟩ lk2 /\ Bf A' B ch2 /\ Lk0 lk2 := by
   rw [a2]
   by_cases e : k = k0
   ·simp only [if_pos e]
    rw [yQQ, zJj]
    exact ⟨_, _, _, rfl, hB, l1⟩
   ·simp only [if_neg e]
    unfold zXi
    split
    ·rw [yQQ, zJj]
     exact ⟨_, _, _, rfl, hB, l1⟩
    ·unfold zZq
     rw [if_pos (zKM hB l1)]
     obtain ⟨lk2, g1, g2⟩ := zV0 (t := t) (m := m) (k := k0) hB l1 (fun r hr => zQz (Ia.gr r hr)) (fun r hr => zQz (Ib.gr r hr)) hk0
     rw [g2, yQQ, zJj]
     exact ⟨_, _, _, rfl, Bf.nil B, g1⟩
  refine ⟨a1.trans b1.symm, c1.trans b1.symm, .inr ⟨b1, h.1, ?_, ?_⟩⟩
  ·obtain ⟨A', ch2, lk2, e1, e2, e3⟩ := ea
   exact ⟨A', B, ch2, ch', lk2, lk', e1, eb, ec, e2, e3, l2, hL, by omega, h.2⟩
  ·rw [ec]; exact hC
 ·obtain ⟨a1, a2⟩ := yZN (t := t) (recs := A) (m := m) (k0 := k0) (ch := ch) (lk := lk) (k := k) (by omega)
  obtain ⟨b1, b2⟩ := yZN (t := t) (recs := B) (m := 0) (k0 := k0) (ch := []) (lk := fun _ => none) (k := k) (by omega)
  obtain ⟨c1, c2⟩ := yZN (t := t) (recs := t.recs) (m := m) (k0 := k0) (ch := ch') (lk := lk') (k := k) (by omega)
  exact ⟨a1.trans b1.symm, c1.trans b1.symm, .inl ⟨by rw [b1]; decide, a2, b2, c2⟩⟩
theorem zYq (hl : Lk0 lk) : zQR 0 (so t recs x lk) = 0 := by
 unfold zQR
 show (if x.mode = 2 ∨ x.mode = 4 ∨ x.at_ < 0 then 0 else match lk x.at_ with | some v => if v = ((0 : Nat) : Int) then 0 else 12 | none => 0) = (0 : Int)
 split
 ·rfl
 ·cases h : lk x.at_ with
  | none => rfl
  | some v => rw [hl _ _ h]; rfl
theorem yKv (hl : Lk0 lk) : ∃ lk', Lk0 lk' /\ zX4 0 (so t recs x lk) = so t recs x lk' := by
 unfold zX4
 show ∃ lk', Lk0 lk' /\ (if x.mode = 2 ∨ x.mode = 4 ∨ x.at_ < 0 ∨ x.mode = 0 then so t recs x lk else { so t recs x lk with lk := fun k => if k = x.at_ then some ((0 : Nat) : Int) else lk k }) = so t recs x lk'
 split
 ·exact ⟨lk, hl, rfl⟩
 ·refine ⟨fun k => if k = x.at_ then some ((0 : Nat) : Int) else lk k, fun k v hv => ?_, rfl⟩
  have hv : (if k = x.at_ then some ((0 : Nat) : Int) else lk k) = some v := hv
  split at hv
  ·exact (Option.some.inj hv).symm
  ·exact hl k v hv
theorem yQk (hl : Lk0 lk) (hm : m ≠ 0) (hk : 1 <= k) (f : Rec -> Rec) : ∃ lk', Lk0 lk' /\ zXq 0 f (so t recs ⟨m, k, ch, []⟩ lk) =
  so t recs ⟨m, k, AL.put ch k (((AL.get ch k).getD (recs.getD (k - 1).toNat default, recs.getD (k - 1).toNat default)).1, f ((AL.get ch k).getD (recs.getD (k - 1).toNat default, recs.getD (k - 1).toNat default)).2), []⟩ lk' := by
 obtain ⟨lk', h1, h2⟩ := yKv (t := t) (recs := recs) (x := ⟨m, k, ch, []⟩) hl
 refine ⟨lk', h1, ?_⟩
 unfold zXq
 show (if k < 0 then _ else if m = 0 then _ else (zX4 0 (so t recs ⟨m, k, ch, []⟩ lk)).setU 0 _) = _
 rw [if_neg (by omega), if_neg hm, h2, zJj]
 rfl
theorem Bf.put (h : Bf A B ch) (hk : 1 <= k) (hk2 : k <= A.length) (f : Rec -> Rec) : Bf A (B.modify (k - 1).toNat f) (AL.put ch k (((AL.get ch k).getD (A.getD (k - 1).toNat default, A.getD (k - 1).toNat default)).1, f ((AL.get ch k).getD (A.getD (k - 1).toNat default, A.getD (k - 1).toNat default)).2)) := by
 have key : A[(k - 1).toNat]? = some ((AL.get ch k).getD (A.getD (k - 1).toNat default, A.getD (k - 1).toNat default)).1 /\ B[(k - 1).toNat]? = some ((AL.get ch k).getD (A.getD (k - 1).toNat default, A.getD (k - 1).toNat default)).2 := by
  have ek : (((k - 1).toNat : Nat) : Int) + 1 = k := by omega
  cases hg : AL.get ch k with
  | some c =>
   have := h.has (k - 1).toNat c (by rw [ek]; exact hg)
   simpa using this
  | none =>
   have := h.no (k - 1).toNat (by rw [ek]; exact hg)
   have e : A[(k - 1).toNat]? = some (A.getD (k - 1).toNat default) := by
    rw [List.getD_eq_getElem?_getD, List.getElem?_eq_getElem (by omega)]; rfl
   exact ⟨e, by rw [← this]; exact e⟩
 refine ⟨by rw [List.length_modify]; exact h.len, fun i c hc => ?_, fun i hn => ?_⟩
 ·rw [AL.get_put] at hc
  by_cases e : k = (i : Int) + 1
  ·rw [if_pos e] at hc
   have ei : (k - 1).toNat = i := by omega
   cases hc
   rw [List.getElem?_modify, ← ei]
   exact ⟨key.1, by rw [key.2]; simp⟩
  ·rw [if_neg e] at hc
   have ei : ¬ (k - 1).toNat = i := by omega
   rw [List.getElem?_modify]
   have := h.has i c hc
   exact ⟨this.1, by rw [this.2]; show some (if (k - 1).toNat = i then f c.2 else c.2) = _; rw [if_neg ei]⟩
 ·rw [AL.get_put] at hn
  by_cases e : k = (i : Int) + 1
  ·rw [if_pos e] at hn; cases hn
  ·rw [if_neg e] at hn
   have ei : ¬ (k - 1).toNat = i := by omega
   rw [List.getElem?_modify, h.no i hn]
   cases B[i]? with
   | none => rfl
   | some r => show some r = some (if (k - 1).toNat = i then f r else r); rw [if_neg ei]
theorem zWH (hS : Sim m t k a b c) (hm : 1 <= m) (hk : 1 <= k) (f : Rec -> Rec) : zQR 0 a = 0 /\ zQR 0 b = 0 /\ zQR 0 c = 0 /\ Sim m t k (zXq 0 f a) (zXq 0 f b) (zXq 0 f c) := by
 obtain ⟨A, B, ch, ch', lk, lk', rfl, rfl, rfl, hB, l1, l2, hL, hk0, hk1⟩ := hS
 have l0 : Lk0 (fun _ => none) := fun _ _ h => by cases h
 refine ⟨zYq l1, zYq l0, zYq l2, ?_⟩
 obtain ⟨p, p1, p2⟩ := yQk (t := t) (recs := A) (ch := ch) l1 (show m ≠ 0 by omega) hk f
 obtain ⟨q, q1, q2⟩ := yQk (t := t) (recs := t.recs) (ch := ch') l2 (show m ≠ 0 by omega) hk f
 refine ⟨A, B.modify (k - 1).toNat f, _, _, p, q, p2, ?_, q2, hB.put hk (by have := hB.len; omega) f, p1, q1, by rw [List.length_modify]; exact hL, hk0, hk1⟩
 unfold zXq
 show (if k < 0 then _ else if (0 : Int) = 0 then _ else _) = _
 rw [if_neg (by omega), if_pos rfl]
 rfl
theorem zYB (hk : (σ.us 0).at_ ≠ 0) (hl : zQR 0 σ = 0) (nm : ByteArray) (v : Val) : zYc 0 nm v σ = match zVn σ.flds nm with
  | none => 4
  | some i => (zJu (σ.flds.getD i default) σ.page v).2 := by
 unfold zYc
 rw [if_neg (by decide)]
 show (if (σ.us 0).at_ = 0 then 9 else match zVn σ.flds nm with | none => 4 | some i => if (zJu (σ.flds.getD i default) σ.page v).2 ≠ 0 then (zJu (σ.flds.getD i default) σ.page v).2 else zQR 0 σ) = _
 rw [if_neg hk, hl]
 cases zVn σ.flds nm with
 | none => rfl
 | some i =>
  show (if (zJu (σ.flds.getD i default) σ.page v).2 ≠ 0 then _ else _) = _
  split
  ·rfl
  ·next h => exact (Decidable.not_not.1 h).symm
theorem st_set (hS : Sim m t k a b c) (hm : 1 <= m) (hk : 1 <= k) (nm : ByteArray) (v : Val) : zYc 0 nm v a = zYc 0 nm v b /\ zYc 0 nm v c = zYc 0 nm v b /\ Sim m t k (yXS 0 nm v a) (yXS 0 nm v b) (yXS 0 nm v c) := by
 obtain ⟨i1, i2, i3, _⟩ := zWH hS hm hk id
 have hS2 := hS
 obtain ⟨A, B, ch, ch', lk, lk', ea, eb, ec, _⟩ := hS2
 have fa : a.flds = t.fields /\ a.page = t.page /\ (a.us 0).at_ = k := by rw [ea]; exact ⟨rfl, rfl, rfl⟩
 have fb : b.flds = t.fields /\ b.page = t.page /\ (b.us 0).at_ = k := by rw [eb]; exact ⟨rfl, rfl, rfl⟩
 have fc : c.flds = t.fields /\ c.page = t.page /\ (c.us 0).at_ = k := by rw [ec]; exact ⟨rfl, rfl, rfl⟩
 have ka := zYB (by rw [fa.2.2]; omega) i1 nm v
 have kb := zYB (by rw [fb.2.2]; omega) i2 nm v
 have kc := zYB (by rw [fc.2.2]; omega) i3 nm v
 rw [fa.1, fa.2.1] at ka
 rw [fb.1, fb.2.1] at kb
 rw [fc.1, fc.2.1] at kc
 refine ⟨ka.trans kb.symm, kc.trans kb.symm, ?_⟩
 unfold yXS
 rw [ka, kb, kc, fa.1, fb.1, fc.1, fa.2.1, fb.2.1, fc.2.1]
 cases hi : zVn t.fields nm with
 | none => exact hS
 | some i =>
  simp only
  split
  ·exact (zWH hS hm hk _).2.2.2
  ·exact hS
theorem yYn (hS : Sim m t k a b c) (hm : 1 <= m) (hk : 1 <= k) (g : Bool) : zJo 0 a = zJo 0 b /\ zJo 0 c = zJo 0 b /\ Sim m t k (zKZ 0 g a) (zKZ 0 g b) (zKZ 0 g c) := by
 obtain ⟨i1, i2, i3, hA⟩ := zWH hS hm hk (zZf g)
 obtain ⟨A, B, ch, ch', lk, lk', ea, eb, ec, _⟩ := hS
 have key : ∀ σ : Dsk, (σ.us 0).at_ = k -> zQR 0 σ = 0 -> zJo 0 σ = 0 := fun σ h1 h2 => by
  unfold zJo
  rw [if_neg (by decide)]
  show (if (σ.us 0).at_ = 0 then 9 else zQR 0 σ) = _
  rw [if_neg (by omega), h2]
 have ka := key a (by rw [ea]; rfl) i1
 have kb := key b (by rw [eb]; rfl) i2
 have kc := key c (by rw [ec]; rfl) i3
 refine ⟨ka.trans kb.symm, kc.trans kb.symm, ?_⟩
 unfold zKZ
 rw [if_pos ka, if_pos kb, if_pos kc]
 exact hA
theorem yVW (hS : Sim m t k a b c) : Sim m t k a b (zZe 0 c) /\ Cl m (zZe 0 c) /\ (zZe 0 c).tbl = t := by
 obtain ⟨A, B, ch, ch', lk, lk', rfl, rfl, rfl, hB, l1, l2, hL, hk0, hk1⟩ := hS
 have e : ∃ lk2, Lk0 lk2 /\ zZe 0 (so t t.recs ⟨m, k, ch', []⟩ lk') = so t t.recs ⟨m, k, [], []⟩ lk2 := by
  unfold zZe
  rw [if_pos (by decide)]
  show ∃ lk2, Lk0 lk2 /\ zXG 0 ((so t t.recs ⟨m, k, ch', []⟩ lk').setU 0 ⟨m, if k < 0 then 0 else k, ch', []⟩) = _
  rw [if_neg (by omega), zJj]
  exact zW7 l2
 obtain ⟨lk2, e1, e2⟩ := e
 rw [e2]
 exact ⟨⟨A, B, ch, [], lk, lk2, rfl, rfl, rfl, hB, l1, e1, hL, hk0, hk1⟩, fun _ => rfl, rfl⟩
theorem st_end (hS : Sim m t k a b c) (Ia : Inv a) (Ib : Inv b) : storeE 0 false a = 0 /\ (zQY 0 false a).tbl = b.tbl := by
 obtain ⟨A, B, ch, ch', lk, lk', rfl, rfl, rfl, hB, l1, l2, hL, hk0, hk1⟩ := hS
 have e : zXN 0 false (so t A ⟨m, k, ch, []⟩ lk) = 0 := zKM hB l1
 refine ⟨by unfold storeE; rw [if_pos (by decide)]; exact e, ?_⟩
 unfold zQY zZq
 rw [if_pos (by decide)]
 show (if zXN 0 false _ = 0 then zXr 0 _ else _).tbl = _
 rw [if_pos e]
 obtain ⟨lk2, g1, g2⟩ := zV0 (t := t) (m := m) (k := k) hB l1 (fun r hr => zQz (Ia.gr r hr)) (fun r hr => zQz (Ib.gr r hr)) hk0
 rw [g2]; rfl
theorem yYu (hm : 1 <= m) (hm4 : m <= 4) : zZO 0 m (Dsk.new t) = 0 /\ Sim m t 0 (zJd 0 m (Dsk.new t)) (Dsk.new t) (zJd 0 m (Dsk.new t)) /\ Cl m (zJd 0 m (Dsk.new t)) := by
 have h : zZO 0 m (Dsk.new t) = 0 := by
  unfold zZO
  rw [if_neg (by decide), if_neg (by omega), if_neg (by simp [Dsk.new, Usr.new, Usr.emp])]
 have e : zJd 0 m (Dsk.new t) = so t t.recs ⟨m, 0, [], []⟩ fun _ => none := by
  unfold zJd
  rw [if_pos h, yWM]
  exact zJj
 have l0 : Lk0 (fun _ => none) := fun _ _ h => by cases h
 refine ⟨h, ?_, ?_⟩
 ·rw [e]
  exact ⟨t.recs, t.recs, [], [], fun _ => none, fun _ => none, rfl, yWM t, rfl, Bf.nil _, l0, l0, rfl, by omega, by omega⟩
 ·rw [e]; exact fun _ => rfl
end Go.Proofs.YtcihcbfcgjepfaaGreatDoor
/- Desks: how records lie in memory by handles: what both sides share. No condition. -/
namespace Go.Proofs.YtcihcbfcgjepfaaGreatDoor
open Go.Sh Go.RowKit Tryz
structure zQu where
 g : Bool
 s : SV
instance : Inhabited zQu := ⟨false, ⟨none, 0, 0⟩⟩
def hv (val : Nat -> List Val) (h : zQu) : List Val := match h.s.a with
 | some a => val a.block
 | none => []
def toR (val : Nat -> List Val) (h : zQu) : Rec := ⟨h.g, hv val h⟩
abbrev yXR (h : zQu) : List Value := [.bool h.g, .slice h.s.a h.s.len h.s.cap]
theorem zQm (h : zQu) : (yXR h).length = 2 := rfl
abbrev chV (c : zQu × zQu) : Value := .agg #[.bool c.1.g, .slice c.1.s.a c.1.s.len c.1.s.cap, .bool c.2.g, .slice c.2.s.a c.2.s.len c.2.s.cap]
abbrev chC (c : Int × (zQu × zQu)) : List Value := [.int .i64 c.1, .bool c.2.1.g, .slice c.2.1.s.a c.2.1.s.len c.2.1.s.cap, .bool c.2.2.g, .slice c.2.2.s.a c.2.2.s.len c.2.2.s.cap]
theorem zYf (c : Int × (zQu × zQu)) : (chC c).length = 5 := rfl
abbrev zXp (n : Int) : Value := .int .i64 n
abbrev Chg := Int × (zQu × zQu)
def toC (val : Nat -> List Val) (c : Chg) : Int × (Rec × Rec) := (c.1, (toR val c.2.1, toR val c.2.2))
inductive zZW
 | S | L | F | R | V
 | C (u : Nat)
 | A (u : Nat)
deriving DecidableEq
structure zQq where
 sd : Bool
 o : Nat -> Option zZW
 S : Nat
 L : Nat
 C : Nat -> Nat
 page : Int
 flds : List Fld
 fs : SV
 rs : SV
 rh : List zQu
 mode : Nat -> Int
 at_ : Nat -> Int
 asv : Nat -> SV
 ah : Nat -> List zQu
 cs : Nat -> SV
 ch : Nat -> List Chg
 lk : Int -> Option Int
def zVk (d : zQq) (val : Nat -> List Val) (u : Nat) : Usr := ⟨d.mode u, d.at_ u, (d.ch u).map (toC val), (d.ah u).map (toR val)⟩
def zQc (d : zQq) (val : Nat -> List Val) : Dsk := ⟨d.page, d.flds, d.rh.map (toR val), zVk d val, d.lk⟩
def chH (l : List Chg) : List zQu := l.flatMap fun c => [c.2.1, c.2.2]
def uH (d : zQq) (u : Nat) : List zQu := chH (d.ch u) ++ d.ah u
def zXs (d : zQq) : List zQu := d.rh ++ (uH d 0 ++ (uH d 1 ++ (uH d 2 ++ uH d 3)))
theorem zXn {d : zQq} {h : zQu} (hm : h ∈ d.rh) : h ∈ zXs d := List.mem_append_left _ hm
theorem zJ5 {d : zQq} {u : Nat} (hu : u < 4) {h : zQu} (hm : h ∈ uH d u) : h ∈ zXs d := by
 unfold zXs
 simp only [List.mem_append]
 rcases (by omega : u = 0 ∨ u = 1 ∨ u = 2 ∨ u = 3) with rfl | rfl | rfl | rfl
 ·exact .inr (.inl hm)
 ·exact .inr (.inr (.inl hm))
 ·exact .inr (.inr (.inr (.inl hm)))
 ·exact .inr (.inr (.inr (.inr hm)))
theorem zZC {d : zQq} {u : Nat} (hu : u < 4) {h : zQu} (hm : h ∈ d.ah u) : h ∈ zXs d := zJ5 hu (List.mem_append_right _ hm)
theorem zVx {d : zQq} {u : Nat} (hu : u < 4) {c : Chg} (hm : c ∈ d.ch u) : c.2.1 ∈ zXs d /\ c.2.2 ∈ zXs d := by
 constructor <;> refine zJ5 hu (List.mem_append_left _ (List.mem_flatMap.2 ⟨c, hm, by simp⟩))
def vB (l : List zQu) : List Nat := l.flatMap fun h => zQa h.s
def zZI (val : Nat -> List Val) (b : Nat) (x : List Val) : Nat -> List Val := fun c => if c = b then x else val c
theorem zZS {val : Nat -> List Val} {b : Nat} {x : List Val} {h : zQu} (hn : b ∉ zQa h.s) : hv (zZI val b x) h = hv val h := by
 unfold hv
 cases ha : h.s.a with
 | none => rfl
 | some a =>
  have : a.block ≠ b := fun e => hn (by simp [zQa, ha, e])
  simp [zZI, this]
theorem zJV {val : Nat -> List Val} {b : Nat} {x : List Val} {h : zQu} {a : Addr} (ha : h.s.a = some a) (hb : a.block = b) : hv (zZI val b x) h = x := by
 simp [hv, ha, zZI, hb]
theorem zZk {val : Nat -> List Val} {b : Nat} {x : List Val} {h : zQu} (hn : b ∉ zQa h.s) : toR (zZI val b x) h = toR val h := by rw [toR, toR, zZS hn]
theorem zJ2 {val : Nat -> List Val} {b : Nat} {x : List Val} {l : List zQu} (hn : b ∉ vB l) : l.map (toR (zZI val b x)) = l.map (toR val) :=
 List.map_congr_left fun h hm => zZk fun hb => hn (List.mem_flatMap.2 ⟨h, hm, hb⟩)
theorem zWC {val : Nat -> List Val} {b : Nat} {x : List Val} {l : List Chg} (hn : b ∉ vB (chH l)) : l.map (toC (zZI val b x)) = l.map (toC val) :=
 List.map_congr_left fun c hm => by
  have h1 : b ∉ zQa c.2.1.s := fun hb => hn (List.mem_flatMap.2 ⟨c.2.1, List.mem_flatMap.2 ⟨c, hm, by simp⟩, hb⟩)
  have h2 : b ∉ zQa c.2.2.s := fun hb => hn (List.mem_flatMap.2 ⟨c.2.2, List.mem_flatMap.2 ⟨c, hm, by simp⟩, hb⟩)
  rw [toC, toC, zZk h1, zZk h2]
theorem zQo (a b : List zQu) : vB (a ++ b) = vB a ++ vB b := List.flatMap_append ..
theorem zQZ (h : zQu) (l : List zQu) : vB (h :: l) = zQa h.s ++ vB l := List.flatMap_cons ..
theorem map_set {val : Nat -> List Val} {b : Nat} {x : List Val} : ∀ {l : List zQu} {i : Nat} {h : zQu} {a : Addr}, (vB l).Nodup -> l[i]? = some h -> h.s.a = some a -> a.block = b -> l.map (toR (zZI val b x)) = (l.map (toR val)).modify i fun r => { r with v := x }
 | [], i, h, a, _, hi, _, _ => by simp at hi
 | y :: l, 0, h, a, hn, hi, ha, hb => by
  simp at hi; subst hi
  rw [zQZ] at hn
  have hmem : b ∈ zQa y.s := by simp [zQa, ha, hb]
  have hno : b ∉ vB l := fun hx => (List.nodup_append.1 hn).2.2 b hmem b hx rfl
  simp only [List.map_cons, List.modify_zero_cons, zJ2 hno]
  rw [toR, zJV ha hb]; rfl
 | y :: l, i + 1, h, a, hn, hi, ha, hb => by
  rw [zQZ] at hn
  have hi : l[i]? = some h := by simpa using hi
  have hmem : b ∈ vB l := List.mem_flatMap.2 ⟨h, List.mem_of_getElem? hi, by simp [zQa, ha, hb]⟩
  have hno : b ∉ zQa y.s := fun hx => (List.nodup_append.1 hn).2.2 b hx b hmem rfl
  simp only [List.map_cons, List.modify_succ_cons, zZk hno]
  rw [map_set (List.nodup_append.1 hn).2.1 hi ha hb]
theorem zXe {l : List zQu} {h : zQu} (hm : h ∈ l) {b : Nat} (hb : b ∈ zQa h.s) : b ∈ vB l := List.mem_flatMap.2 ⟨h, hm, hb⟩
def zQq.withMode (d : zQq) (u : Nat) (m : Int) : zQq := { d with mode := fun v => if v = u then m else d.mode v }
def zQq.withAt (d : zQq) (u : Nat) (k : Int) : zQq := { d with at_ := fun v => if v = u then k else d.at_ v }
theorem yWi (d : zQq) (val : Nat -> List Val) (u : Nat) (m : Int) : zQc (d.withMode u m) val = (zQc d val).setU u { (zQc d val).us u with mode := m } := by
 simp only [zQc, Dsk.setU, zQq.withMode, Dsk.mk.injEq, true_and, and_true]
 funext v
 by_cases e : v = u
 ·subst e; simp [zVk]
 ·simp [zVk, e]
theorem yVl (d : zQq) (val : Nat -> List Val) (u : Nat) (k : Int) : zQc (d.withAt u k) val = (zQc d val).setU u { (zQc d val).us u with at_ := k } := by
 simp only [zQc, Dsk.setU, zQq.withAt, Dsk.mk.injEq, true_and, and_true]
 funext v
 by_cases e : v = u
 ·subst e; simp [zVk]
 ·simp [zVk, e]
def Low (d : zQq) : Prop := ∀ v, 4 <= v -> d.ch v = [] /\ d.ah v = []
theorem yJf {d : zQq} (h : Low d) {v : Nat} (hv : 4 <= v) : uH d v = [] := by obtain ⟨h1, h2⟩ := h v hv; simp [uH, h1, h2, chH]
theorem zWS {d : zQq} (hn : (vB (zXs d)).Nodup) (hl : Low d) : (vB d.rh).Nodup /\ ∀ v b, b ∈ vB d.rh -> b ∉ vB (uH d v) := by
 unfold zXs at hn
 simp only [zQo] at hn
 obtain ⟨h1, _, h3⟩ := List.nodup_append.1 hn
 refine ⟨h1, fun v b hb hx => ?_⟩
 by_cases hv : v < 4
 ·refine h3 b hb b ?_ rfl
  simp only [List.mem_append]
  rcases (by omega : v = 0 ∨ v = 1 ∨ v = 2 ∨ v = 3) with rfl | rfl | rfl | rfl <;> simp [hx]
 ·rw [yJf hl (by omega)] at hx; simp [vB] at hx
theorem yYe {d : zQq} (hn : (vB (zXs d)).Nodup) (hl : Low d) {u : Nat} (hu : u < 4) : (vB (uH d u)).Nodup /\ ∀ v, v ≠ u -> ∀ b, b ∈ vB (uH d u) -> b ∉ vB (uH d v) := by
 unfold zXs at hn
 simp only [zQo] at hn
 obtain ⟨_, h2, _⟩ := List.nodup_append.1 hn
 obtain ⟨a1, a2, a3⟩ := List.nodup_append.1 h2
 obtain ⟨b1, b2, b3⟩ := List.nodup_append.1 a2
 obtain ⟨c1, c2, c3⟩ := List.nodup_append.1 b2
 refine ⟨by rcases (by omega : u = 0 ∨ u = 1 ∨ u = 2 ∨ u = 3) with rfl | rfl | rfl | rfl <;> assumption, fun v hv b hb hx => ?_⟩
 by_cases hv4 : v < 4
 ·have key : ∀ i j, i < 4 -> j < 4 -> i < j -> ∀ b, b ∈ vB (uH d i) -> b ∈ vB (uH d j) -> False := fun i j hi hj hij b hbi hbj => by
   rcases (by omega : (i = 0 /\ 1 <= j) ∨ (i = 1 /\ 2 <= j) ∨ (i = 2 /\ j = 3)) with ⟨rfl, _⟩ | ⟨rfl, _⟩ | ⟨rfl, rfl⟩
   ·refine a3 b hbi b ?_ rfl
    simp only [List.mem_append]
    rcases (by omega : j = 1 ∨ j = 2 ∨ j = 3) with rfl | rfl | rfl <;> simp [hbj]
   ·refine b3 b hbi b ?_ rfl
    simp only [List.mem_append]
    rcases (by omega : j = 2 ∨ j = 3) with rfl | rfl <;> simp [hbj]
   ·exact c3 b hbi b hbj rfl
  rcases Nat.lt_or_gt_of_ne hv with h | h
  ·exact key v u hv4 hu h b hx hb
  ·exact key u v hu hv4 h b hb hx
 ·rw [yJf hl (by omega)] at hx; simp [vB] at hx
theorem zJP {d : zQq} {val : Nat -> List Val} {b : Nat} {x : List Val} {v : Nat} (h : b ∉ vB (uH d v)) : zVk d (zZI val b x) v = zVk d val v := by
 simp only [uH, zQo, List.mem_append, not_or] at h
 simp only [zVk, zWC h.1, zJ2 h.2]
theorem zJl {d : zQq} {val : Nat -> List Val} {x : List Val} {i : Nat} {h : zQu} {a : Addr} (hn : (vB (zXs d)).Nodup) (hl : Low d) (hi : d.rh[i]? = some h) (ha : h.s.a = some a) :
  zQc d (zZI val a.block x) = { zQc d val with recs := (zQc d val).recs.modify i fun r => { r with v := x } } := by
 obtain ⟨h1, h2⟩ := zWS hn hl
 have hm : a.block ∈ vB d.rh := List.mem_flatMap.2 ⟨h, List.mem_of_getElem? hi, by simp [zQa, ha]⟩
 simp only [zQc, map_set h1 hi ha rfl, Dsk.mk.injEq, true_and, and_true]
 funext v
 exact zJP (h2 v _ hm)
theorem zW3 {d : zQq} {val : Nat -> List Val} {x : List Val} {u i : Nat} {h : zQu} {a : Addr} (hn : (vB (zXs d)).Nodup) (hl : Low d) (hu : u < 4) (hi : (d.ah u)[i]? = some h) (ha : h.s.a = some a) :
  zQc d (zZI val a.block x) = (zQc d val).setU u { (zQc d val).us u with ap := ((zQc d val).us u).ap.modify i fun r => { r with v := x } } := by
 obtain ⟨h1, h2⟩ := yYe hn hl hu
 obtain ⟨g1, g2⟩ := zWS hn hl
 have hm0 : a.block ∈ vB (d.ah u) := List.mem_flatMap.2 ⟨h, List.mem_of_getElem? hi, by simp [zQa, ha]⟩
 have hm : a.block ∈ vB (uH d u) := by rw [uH, zQo]; exact List.mem_append_right _ hm0
 have hr : a.block ∉ vB d.rh := fun hx => g2 u _ hx hm
 rw [uH, zQo] at h1
 obtain ⟨k1, k2, k3⟩ := List.nodup_append.1 h1
 have hc : a.block ∉ vB (chH (d.ch u)) := fun hx => k3 _ hx _ hm0 rfl
 simp only [zQc, zJ2 hr, Dsk.setU, Dsk.mk.injEq, true_and, and_true]
 funext v
 by_cases e : v = u
 ·subst e
  simp only [if_true, zVk, zWC hc, map_set k2 hi ha rfl]
 ·simp only [if_neg e]; exact zJP (h2 v e _ hm)
end Go.Proofs.YtcihcbfcgjepfaaGreatDoor
/- Desks: how the program's desk lies in memory; its mutex; entering and leaving; modes. No condition but those stated. -/
set_option maxRecDepth 100000
namespace Go.Proofs.YtcihcbfcgjepfaaGreatDoor
open Go.Sh Go.RowKit Tryz
variable {w w' : World} {d d' : zQq} {val : Nat -> List Val} {mu : Int}
theorem bu32 : prog.underlying 32 = some (.pointer 93) := by kernel_rfl
theorem yYz : prog.underlying 88 = some (.map 3 133) := by kernel_rfl
theorem bu80 : prog.underlying 80 = some (.map 3 3) := by kernel_rfl
theorem bu23 : prog.underlying 23 = some (.slice 77) := by kernel_rfl
def zXh (mu : Int) (d : zQq) : Array Value := #[.int .i32 mu, .int .u32 0, .int .i64 d.page, .slice d.fs.a d.fs.len d.fs.cap, .slice d.rs.a d.rs.len d.rs.cap,
 .int .i64 (d.mode 0), .int .i64 (d.at_ 0), .map (some (d.C 0)), .slice (d.asv 0).a (d.asv 0).len (d.asv 0).cap,
 .int .i64 (d.mode 1), .int .i64 (d.at_ 1), .map (some (d.C 1)), .slice (d.asv 1).a (d.asv 1).len (d.asv 1).cap,
 .int .i64 (d.mode 2), .int .i64 (d.at_ 2), .map (some (d.C 2)), .slice (d.asv 2).a (d.asv 2).len (d.asv 2).cap,
 .int .i64 (d.mode 3), .int .i64 (d.at_ 3), .map (some (d.C 3)), .slice (d.asv 3).a (d.asv 3).len (d.asv 3).cap, .map (some d.L)]
structure zQ4 (w : World) (d : zQq) (val : Nat -> List Val) : Prop where
 fl : zQh w 38 4 d.fs (d.flds.flatMap zVm)
 rw_ : zQh w 77 2 d.rs (d.rh.flatMap yXR)
 aw : ∀ u, u < 4 -> zQh w 77 2 (d.asv u) ((d.ah u).flatMap yXR)
 mp : d.sd = false -> ∀ u, u < 4 -> zQ3 w zXp chV (d.C u) (d.ch u)
 ml : d.sd = true -> ∀ u, u < 4 -> zQh w 136 5 (d.cs u) ((d.ch u).flatMap chC)
 lm : ∃ l, zQ3 w zXp zXp d.L l /\ ∀ k, AL.get l k = (d.lk k).map fun v => if d.sd then v + 1 else v
 vr : ∀ h ∈ zXs d, zQh w 28 3 h.s ((hv val h).flatMap zXO)
 low : Low d
 nd : (vB (zXs d)).Nodup
 oS : d.o d.S = some .S
 oL : d.o d.L = some .L
 oC : d.sd = false -> ∀ u, u < 4 -> d.o (d.C u) = some (.C u)
 oK : d.sd = true -> ∀ u, u < 4 -> ∀ b ∈ zQa (d.cs u), d.o b = some (.C u)
 oF : ∀ b ∈ zQa d.fs, d.o b = some .F
 oR : ∀ b ∈ zQa d.rs, d.o b = some .R
 oA : ∀ u, u < 4 -> ∀ b ∈ zQa (d.asv u), d.o b = some (.A u)
 oV : ∀ b ∈ vB (zXs d), d.o b = some .V
 lt : ∀ b, d.o b ≠ none -> b < w.heap.size
structure zQb (w : World) (d : zQq) (mu : Int) (val : Nat -> List Val) : Prop where
 st : w.heap[d.S]? = some (.cells (zXh mu d) 93)
 bd : zQ4 w d val
 sd : d.sd = false
theorem zQb.mp {w : World} {d : zQq} {mu : Int} {val : Nat -> List Val} (h : zQb w d mu val) {u : Nat} (hu : u < 4) : zQ3 w zXp chV (d.C u) (d.ch u) := h.bd.mp h.sd u hu
theorem zQb.lm {w : World} {d : zQq} {mu : Int} {val : Nat -> List Val} (h : zQb w d mu val) : ∃ l, zQ3 w zXp zXp d.L l /\ ∀ k, AL.get l k = d.lk k := by
 obtain ⟨l, h1, h2⟩ := h.bd.lm
 exact ⟨l, h1, fun k => by rw [h2, h.sd]; cases d.lk k <;> rfl⟩
def zQq.ptr (d : zQq) : Value := .pointer (some ⟨d.S, 0, none⟩)
theorem zQ4.fr {B : Nat -> Prop} (h : zQ4 w d val) (hf : Fr B w w') (hn : ∀ b κ, d.o b = some κ -> κ ≠ .S -> ¬ B b) : zQ4 w' d val where
 fl := h.fl.fr hf fun b hb => hn b _ (h.oF b hb) (by simp)
 rw_ := h.rw_.fr hf fun b hb => hn b _ (h.oR b hb) (by simp)
 aw := fun u hu => (h.aw u hu).fr hf fun b hb => hn b _ (h.oA u hu b hb) (by simp)
 mp := fun e u hu => (h.mp e u hu).fr hf (hn _ _ (h.oC e u hu) (by simp))
 ml := fun e u hu => (h.ml e u hu).fr hf fun b hb => hn b _ (h.oK e u hu b hb) (by simp)
 lm := let ⟨l, h1, h2⟩ := h.lm; ⟨l, h1.fr hf (hn _ _ h.oL (by simp)), h2⟩
 vr := fun x hx => (h.vr x hx).fr hf fun b hb => hn b _ (h.oV b (zXe hx hb)) (by simp)
 low := h.low
 nd := h.nd
 oS := h.oS
 oL := h.oL
 oC := h.oC
 oK := h.oK
 oF := h.oF
 oR := h.oR
 oA := h.oA
 oV := h.oV
 lt := fun b hb => Nat.lt_of_lt_of_le (h.lt b hb) hf.size
theorem zQb.fr {B : Nat -> Prop} (h : zQb w d mu val) (hf : Fr B w w') (hn : ∀ b, d.o b ≠ none -> ¬ B b) : zQb w' d mu val :=
 ⟨hf.blk h.st (hn _ (by rw [h.bd.oS]; simp)), h.bd.fr hf fun b κ hb _ => hn b (by rw [hb]; simp), h.sd⟩
theorem zQb.pu (h : zQb w d mu val) (hp : Pu w w') : zQb w' d mu val := h.fr (Fr.pu hp : Fr (fun _ => False) w w') fun _ _ h => h
theorem zQb.cell (h : zQb w d mu val) (o : Nat) : w.cell? ⟨d.S, o, none⟩ = (zXh mu d)[o]? := zQs h.st o
theorem zQb.cellA (h : zQb w d mu val) (o : Nat) : w.cell? ((⟨d.S, 0, none⟩ : Addr).add o) = (zXh mu d)[o]? := by rw [zQf, Nat.zero_add]; exact h.cell o
abbrev uA (d : zQq) (u : Nat) : Addr := ⟨d.S, 5 + u * 4, none⟩
theorem zQb.cellU (h : zQb w d mu val) {u : Nat} (hu : u < 4) (o : Nat) : w.cell? ((uA d u).add o) = (zXh mu d)[5 + u * 4 + o]? := by rw [zQf]; exact h.cell _
theorem zVS {u : Nat} (hu : u < 4) : (zXh mu d)[5 + u * 4 + 0]? = some (.int .i64 (d.mode u)) := by
 rcases (by omega : u = 0 ∨ u = 1 ∨ u = 2 ∨ u = 3) with rfl | rfl | rfl | rfl <;> rfl
theorem yZt {u : Nat} (hu : u < 4) : (zXh mu d)[5 + u * 4 + 1]? = some (.int .i64 (d.at_ u)) := by
 rcases (by omega : u = 0 ∨ u = 1 ∨ u = 2 ∨ u = 3) with rfl | rfl | rfl | rfl <;> rfl
theorem yVM {u : Nat} (hu : u < 4) : (zXh mu d)[5 + u * 4 + 2]? = some (.map (some (d.C u))) := by
 rcases (by omega : u = 0 ∨ u = 1 ∨ u = 2 ∨ u = 3) with rfl | rfl | rfl | rfl <;> rfl
theorem yZA {u : Nat} (hu : u < 4) : (zXh mu d)[5 + u * 4 + 3]? = some (.slice (d.asv u).a (d.asv u).len (d.asv u).cap) := by
 rcases (by omega : u = 0 ∨ u = 1 ∨ u = 2 ∨ u = 3) with rfl | rfl | rfl | rfl <;> rfl
theorem yQM {u : Nat} (hu : u < 4) (m : Int) : (zXh mu d).setIfInBounds (5 + u * 4) (.int .i64 m) = zXh mu (d.withMode u m) := by
 rcases (by omega : u = 0 ∨ u = 1 ∨ u = 2 ∨ u = 3) with rfl | rfl | rfl | rfl <;> rfl
theorem zVa {u : Nat} (hu : u < 4) (m : Int) : (zXh mu d).setIfInBounds (5 + u * 4 + 1) (.int .i64 m) = zXh mu (d.withAt u m) := by
 rcases (by omega : u = 0 ∨ u = 1 ∨ u = 2 ∨ u = 3) with rfl | rfl | rfl | rfl <;> rfl
theorem zQb.own (h : zQb w d mu val) {mu' : Int} {o : Nat} {v : Value} (ho : o < 22) {K : World -> Prop} (hc : (zXh mu d).setIfInBounds o v = zXh mu' d') (hS : d'.S = d.S) (hsd : d'.sd = d.sd) (hb : ∀ x, zQ4 x d val -> zQ4 x d' val)
  (hK : ∀ x, zQb x d' mu' val -> Fr (· = d.S) w x -> x.heap.size = w.heap.size -> K x) : st1 ⟨d.S, o, none⟩ v w K := by
 refine zQ9 h.st ho fun x hx hbx => ?_
 have hf : Fr (· = d.S) w x := by rw [hx]; exact Fr.cell w _ _ _
 refine hK x ⟨by rw [hS, hbx, hc], hb x (h.bd.fr hf fun b κ hb hne e => ?_), by rw [hsd, h.sd]⟩ hf (by rw [hx]; simp)
 rw [show b = d.S from e, h.bd.oS] at hb
 exact hne (Option.some.inj hb).symm
theorem zQ4.same (h : zQ4 w d val) (m a : Nat -> Int) : zQ4 w { d with mode := m, at_ := a } val := ⟨h.fl, h.rw_, h.aw, h.mp, h.ml, h.lm, h.vr, h.low, h.nd, h.oS, h.oL, h.oC, h.oK, h.oF, h.oR, h.oA, h.oV, h.lt⟩
structure zQ2 (w w' : World) (d d' : zQq) (mu : Int) (val' : Nat -> List Val) : Prop where
 sys : zQb w' d' mu val'
 fr : Fr (fun b => d.o b ≠ none) w w'
 own : ∀ b, d'.o b ≠ none -> d.o b ≠ none ∨ w.heap.size <= b
 ptr : d'.S = d.S
theorem zQ2.refl (h : zQb w d mu val) : zQ2 w w d d mu val := ⟨h, Fr.refl _ _, fun _ h => .inl h, rfl⟩
theorem zQ2.pu (h : zQb w d mu val) (hp : Pu w w') : zQ2 w w' d d mu val := ⟨h.pu hp, Fr.pu hp, fun _ h => .inl h, rfl⟩
theorem zQ2.trans {w'' : World} {d'' : zQq} {mu' : Int} {val' val'' : Nat -> List Val} (h : zQ2 w w' d d' mu val') (k : zQ2 w' w'' d' d'' mu' val'') : zQ2 w w'' d d'' mu' val'' := by
 refine ⟨k.sys, h.fr.trans k.fr fun b hb hlt => (h.own b hb).resolve_right (by omega), fun b hb => ?_, k.ptr.trans h.ptr⟩
 rcases k.own b hb with h1 | h1
 ·exact h.own b h1
 ·exact .inr (Nat.le_trans h.fr.size h1)
theorem disable (w : World) : (callFunc 168 #[]).run prog w = .ok (.value (.tuple #[])) w := run_call_mark0 Tryz.func168 (by kernel_rfl) (by kernel_rfl) (by kernel_rfl) .disable (by kernel_rfl) w
theorem enable (w : World) : (callFunc 170 #[]).run prog w = .ok (.value (.tuple #[])) w := run_call_mark0 Tryz.func170 (by kernel_rfl) (by kernel_rfl) (by kernel_rfl) .enable (by kernel_rfl) w
theorem acquire (a : Addr) (w : World) : (callFunc 171 #[.pointer (some a)]).run prog w = .ok (.value (.tuple #[])) w := run_call_marked Tryz.func171 (by kernel_rfl) (by kernel_rfl) (by kernel_rfl) .acquire (by kernel_rfl) a w
theorem yK3 (a : Addr) (w : World) : (callFunc 173 #[.pointer (some a)]).run prog w = .ok (.value (.tuple #[])) w := run_call_marked Tryz.func173 (by kernel_rfl) (by kernel_rfl) (by kernel_rfl) .releaseMerge (by kernel_rfl) a w
theorem mu1 : prog.underlying 202 = some (.pointer 85) := by kernel_rfl
theorem mu2 : prog.underlying 206 = some .unsafePointer := by kernel_rfl
theorem mu3 : (prog.info? 85).map (fun i => decide (i.size = 0)) = some false := by kernel_rfl
theorem muLock {a : Addr} {w : World} (hc : w.cell? a = some (.int .i32 0)) (hz : w.frozen? a = false) :
  Calls prog 85 #[.pointer (some a)] w fun e w' => e = .returned (.tuple #[]) /\ w' = w.setCell a (.int .i32 1) := by
 refine yJP _ w _ ?_
 refine Calls.mono (R := fun e w' => e = .returned (.tuple #[]) /\ w' = w.setCell a (.int .i32 1)) ?_ fun e w' h => ⟨h.1, rfl, h.2⟩
 refine yX9 _ w _ ?_
 refine ⟨w, disable w, true, w.setCell a (.int .i32 1), run_call_cas_hit Tryz.func169 (by kernel_rfl) (by kernel_rfl) (by kernel_rfl) .i32 (by kernel_rfl) hc hz, ?_⟩
 have hc' : (w.setCell a (.int .i32 1)).cell? a = some (.int .i32 1) := World.cell?_setCell_same _ _ _ hc
 exact ⟨_, enable _, _, _, run_convert_to_unsafe mu1 mu2 mu3 hc', _, acquire a _, rfl, rfl⟩
theorem yKP {a : Addr} {w : World} (hc : w.cell? a = some (.int .i32 1)) (hz : w.frozen? a = false) (u : FrameMode) :
  CallsD prog 86 #[.pointer (some a)] u w fun e u' w' => u' = u /\ e = .returned (.tuple #[]) /\ w' = w.setCell a (.int .i32 0) := by
 refine yXN _ w (fun e w' => e = .returned (.tuple #[]) /\ w' = w.setCell a (.int .i32 0)) u ?_
 refine Calls.mono (R := fun e w' => e = .returned (.tuple #[]) /\ w' = w.setCell a (.int .i32 0)) ?_ fun e w' h => ⟨h.1, rfl, h.2⟩
 refine yQ8 _ w _ ?_
 refine ⟨1, hc, _, _, run_convert_to_unsafe mu1 mu2 mu3 hc, _, yK3 a _, _, disable _, 0, w.setCell a (.int .i32 0),
  run_call_add Tryz.func174 (by kernel_rfl) (by kernel_rfl) (by kernel_rfl) .i32 (by kernel_rfl) hc hz (by simp [go_sem]; rfl), w.setCell a (.int .i32 0), enable _, rfl, rfl⟩
theorem zQb.setMu (h : zQb w d mu val) (m : Int) : zQb (w.setCell ⟨d.S, 0, none⟩ (.int .i32 m)) d m val := by
 have hf := Fr.cell w d.S 0 (.int .i32 m)
 refine ⟨?_, h.bd.fr hf fun b κ hb hne e => ?_, h.sd⟩
 ·rw [zJs h.st 0 (.int .i32 m)]; rfl
 ·rw [show b = d.S from e, h.bd.oS] at hb
  exact hne (Option.some.inj hb).symm
def yVR (d : zQq) : Value := .func (.func 86) #[d.ptr] #[]
def zZj (d : zQq) : Deferred := { target := .fn (.func 86) #[], args := #[d.ptr] }
def uV (d : zQq) (u : Int) : Value := .pointer (if isU u = true then some (uA d u.toNat) else none)
theorem yJY (h : zQb w d 0 val) (u : Int) :
  Calls prog 47 #[d.ptr, .int .i64 u] w fun e w' => e = .returned (.tuple #[uV d u, yVR d, .int .i64 (uC u)]) /\ zQb w' d 1 val /\ Fr (· = d.S) w w' /\ w'.heap.size = w.heap.size := by
 refine yZf _ u w _ ⟨false, w, zK8 bu32 _ _ _ w, ?_⟩
 show Calls prog 85 #[.pointer (some ⟨d.S, 0, none⟩)] w _
 refine Calls.mono (muLock (by rw [h.cell]; rfl) (zJS h.st 0)) ?_
 rintro e w1 ⟨rfl, hw1⟩
 have h1 : zQb w1 d 1 val := by rw [hw1]; exact h.setMu 1
 have hf1 : Fr (· = d.S) w w1 := by rw [hw1]; exact Fr.cell w _ _ _
 have hs1 : w1.heap.size = w.heap.size := by rw [hw1]; simp
 have fin : ∀ {w2 : World}, Pu w1 w2 -> w2.heap = w1.heap -> zQb w2 d 1 val /\ Fr (· = d.S) w w2 /\ w2.heap.size = w.heap.size := fun {w2} hp hh => ⟨h1.pu hp, hf1.trans (Fr.pu hp : Fr (· = d.S) w1 w2) fun i hi _ => hi, by rw [hh]; exact hs1⟩
 refine ⟨rfl, Br.of (fun c1 => zQl fun w2 hp2 hh2 => ?_) (fun c1 => Br.of (fun c2 => zQl fun w2 hp2 hh2 => ?_) (fun c2 => zQl fun w2 hp2 hh2 => ?_))⟩
 ·have c1 := zQn c1
  have hu : isU u = false := by simp [isU]; omega
  exact ⟨by simp only [uV, uC, hu]; rfl, fin hp2 hh2⟩
 ·have c2 := zQn c2
  have hu : isU u = false := by simp [isU]; omega
  exact ⟨by simp only [uV, uC, hu]; rfl, fin hp2 hh2⟩
 ·have c1 := zQg c1
  have c2 := zQg c2
  have hu : isU u = true := by simp [isU]; omega
  refine ⟨by omega, by omega, ?_, fin hp2 hh2⟩
  simp only [uV, uC, hu, if_true]
  rw [zQf, zQf]
  rfl
theorem yZz (h : zQb w d 1 val) {K : World -> Prop} (hK : ∀ w', zQb w' d 0 val -> Fr (· = d.S) w w' -> w'.heap.size = w.heap.size -> K w') : zQd prog [zZj d] w K := by
 show yKB prog (zZj d) w _
 show CallsD prog 86 #[.pointer (some ⟨d.S, 0, none⟩)] .returning w _
 refine CallsD.mono (yKP (by rw [h.cell]; rfl) (zJS h.st 0) .returning) ?_
 rintro e u' w' ⟨rfl, rfl, rfl⟩
 exact ⟨⟨_, rfl⟩, rfl, hK _ (h.setMu 0) (Fr.cell w _ _ _) (by simp)⟩
theorem zXo {w0 : World} {d0 : zQq} (h : zQ2 w0 w d0 d 1 val) {K : World -> Prop} (hK : ∀ w', zQ2 w0 w' d0 d 0 val -> Fr (· = d.S) w w' -> w'.heap.size = w.heap.size -> K w') : zQd prog [zZj d] w K :=
 yZz h.sys fun w' h' hf hs => hK w' (h.trans ⟨h', hf.mono fun i hi _ => by rw [show i = d.S from hi, h.sys.bd.oS]; simp, fun _ h => .inl h, rfl⟩) hf hs
theorem zQ2.enter {w1 : World} (h : zQb w d 0 val) (h1 : zQb w1 d 1 val) (hf : Fr (· = d.S) w w1) : zQ2 w w1 d d 1 val :=
 ⟨h1, hf.mono fun i hi _ => by rw [show i = d.S from hi, h.bd.oS]; simp, fun _ h => .inl h, rfl⟩
theorem zJO {u : Int} (h : isU u = true) : ∃ n : Nat, u = (n : Int) /\ n < 4 := by
 simp [isU] at h
 exact ⟨u.toNat, by omega, by omega⟩
theorem yQE {u : Int} (h : (uC u != 0) = true) : ¬ isU u = true := by
 intro hu; simp [uC, hu] at h
theorem yXs {u : Int} (h : (uC u != 0) = false) : isU u = true := by
 cases hu : isU u with
 | true => rfl
 | false => simp [uC, hu] at h
theorem yXE {u : Nat} (h : u < 4) : (if isU (u : Int) = true then some (uA d (u : Int).toNat) else none) = some (uA d u) := by
 have : isU (u : Int) = true := by simp [isU]; omega
 simp [this]
theorem zKJ {u : Nat} : ((zQc d val).us u).ap.length = (d.ah u).length := by simp [zQc, zVk]
theorem zYW {u : Nat} : ((zQc d val).us u).ch.length = (d.ch u).length := by simp [zQc, zVk]
theorem zQb.as_len (h : zQb w d mu val) {u : Nat} (hu : u < 4) : (d.asv u).len = (d.ah u).length := (h.bd.aw u hu).len zQm (by decide)
theorem zVN (h : zQb w d mu val) {u : Nat} (hu : u < 4) : Calls prog 48 #[.pointer (some (uA d u))] w fun e w' => e = .returned (.bool ((zQc d val).us u).emp) /\ w' = w := by
 refine yJO _ w _ ⟨some (d.C u), by rw [h.cellU hu]; exact yVM hu, _, w, (h.mp hu).len rfl yYz, Br.of (fun c => ?_) (fun c => ?_)⟩
 ·refine ⟨d.asv u, by rw [h.cellU hu]; exact yZA hu, ?_, rfl⟩
  have hc : (d.ch u).length = 0 := by have := zQA c; omega
  rw [h.as_len hu, Usr.emp, zKJ, zYW, hc]
  congr 2
  by_cases e : (d.ah u).length = 0
  ·simp [e]
  ·simp [e]
 ·have hc : (d.ch u).length ≠ 0 := by have := zQj c; omega
  refine ⟨?_, rfl⟩
  rw [Usr.emp, zKJ, zYW, decide_eq_false (by omega)]
theorem yKx (h : zQb w d mu val) {u : Nat} (hu : u < 4) : Calls prog 103 #[.pointer (some (uA d u))] w fun e w' => e = .returned (.bool ((zQc d val).us u).rows) /\ w' = w := by
 have hm : w.cell? (uA d u) = some (.int .i64 (d.mode u)) := by
  have := h.cellU hu 0
  rw [yZB] at this
  rw [this]; exact zVS hu
 have e : ((zQc d val).us u).rows = (decide (d.mode u = 1) || decide (d.mode u = 2)) := rfl
 rw [e]
 refine yXF _ w _ ⟨_, hm, Br.of (fun c => ⟨?_, rfl⟩) (fun c => ⟨_, hm, ?_, rfl⟩)⟩
 ·rw [decide_eq_true (zQA c)]; rfl
 ·have c := zQj c
  rw [decide_eq_false c, Bool.false_or]
  rfl
theorem yKf (h : zQb w d 0 val) (u m : Int) : Calls prog 14 #[d.ptr, .int .i64 u, .int .i64 m] w fun e w' => e = .returned (.int .i64 (zZO u m (zQc d val))) /\ ∃ d', zQ2 w w' d d' 0 val /\ zQc d' val = zJd u m (zQc d val) := by
 refine yXX _ u m w _ ?_
 refine Calls.mono (yJY h u) ?_
 rintro e w1 ⟨rfl, h1, hf1, _⟩
 have L1 := zQ2.enter h h1 hf1
 have bad : ∀ (n : Int), n ≠ 0 -> zZO u m (zQc d val) = n -> zQd prog [zZj d] w1 fun w' => Ending.returned (.int .i64 n) = .returned (.int .i64 (zZO u m (zQc d val))) /\ ∃ d', zQ2 w w' d d' 0 val /\ zQc d' val = zJd u m (zQc d val) := fun n hn hC =>
  zXo L1 fun w' hL _ _ => ⟨by rw [hC], d, hL, by rw [zJd, hC, if_neg hn]⟩
 refine ⟨_, _, _, rfl, Br.of (fun c => ?_) (fun c => ?_)⟩
 ·have hu := yQE c
  have hC : zZO u m (zQc d val) = 1 := by rw [zZO, if_pos hu]
  have e : uC u = 1 := by rw [uC, if_neg hu]
  rw [e]
  exact bad 1 (by decide) hC
 have hu := yXs c
 refine Br.of (fun c1 => bad 1 (by decide) (by rw [zZO, if_neg (by simp [hu]), if_pos (.inl (zQn c1))])) (fun c1 => Br.of (fun c2 => bad 1 (by decide) (by rw [zZO, if_neg (by simp [hu]), if_pos (.inr (zQn c2))])) (fun c2 => ?_))
 have c1 := zQg c1
 have c2 := zQg c2
 obtain ⟨n, rfl, hn⟩ := zJO hu
 rw [yXE hn]
 refine Calls.mono (zVN h1 hn) ?_
 rintro e w2 ⟨rfl, rfl⟩
 refine ⟨_, rfl, Br.of (fun c3 => bad 9 (by decide) ?_) (fun c3 => ?_)⟩
 ·rw [zZO, if_neg (by simp [hu]), if_neg (by omega), if_pos (by simpa using c3)]
 have hC : zZO (n : Int) m (zQc d val) = 0 := by
  have c3 : ((zQc d val).us n).emp = true := by simpa using c3
  rw [zZO, if_neg (by simp [hu]), if_neg (by omega), if_neg (by rw [zZa, c3]; simp)]
 rw [zXB]
 refine h1.own (d' := d.withMode n m) (mu' := 1) (by omega) (yQM hn m) rfl rfl (fun x hb => hb.same _ _) fun w3 h3 hf3 hs3 => ?_
 have L3 : zQ2 w w3 d (d.withMode n m) 1 val := L1.trans ⟨h3, hf3.mono fun i hi _ => by rw [show i = d.S from hi, h.bd.oS]; simp, fun _ h => .inl h, rfl⟩
 exact zXo L3 fun w' hL _ _ => ⟨by rw [hC], _, hL, by rw [zJd, if_pos hC, yWi, zZa]⟩
end Go.Proofs.YtcihcbfcgjepfaaGreatDoor
/- Desks: records and fields copied; a new desk. No condition but those stated. -/
namespace Go.Proofs.YtcihcbfcgjepfaaGreatDoor
open Go.Sh Go.RowKit Tryz
variable {w w' : World} {d d' : zQq} {val : Nat -> List Val} {mu : Int}
theorem bu75 : prog.underlying 75 = some (.slice 28) := by kernel_rfl
theorem bu22 : prog.underlying 22 = some (.slice 38) := by kernel_rfl
theorem yYq : (prog.info? 28).map (fun i => (i.zero, i.size, i.bytes)) = some (some (.agg #[.int .i64 0, .int .i64 0, .string ⟨#[]⟩]), 3, 32) := by kernel_rfl
theorem yYf : (prog.info? 38).map (fun i => (i.zero, i.size, i.bytes)) = some (some (.agg #[.string ⟨#[]⟩, .int .i64 0, .int .i64 0, .bool false]), 4, 40) := by kernel_rfl
theorem zYN : (prog.info? 77).map (fun i => (i.zero, i.size, i.bytes)) = some (some (.agg #[.bool false, .slice none 0 0]), 2, 32) := by kernel_rfl
theorem bs77 : zXc prog 77 = 2 := by kernel_rfl
theorem yKO : zXc prog 133 = 4 := by kernel_rfl
theorem yKr : zXc prog 28 = 3 := by kernel_rfl
theorem yWh {s : SV} {l : List Val} (h : RdV w s l) (hb : l.length <= 1000000) : Calls prog 141 #[.slice s.a s.len s.cap] w fun e w' => ∃ q : SV, e = .returned (.slice q.a q.len q.cap) /\ zJQ w w' q l /\ Pu w w' := by
 refine yQT s w _ ⟨_, w, zJC bu75 _ _ _ _ _ w, Br.of (fun hn => ?_) (fun hn => ?_)⟩
 ·have hl : l = [] := by
   cases l with
   | nil => rfl
   | cons v l =>
    obtain ⟨a, ha, _⟩ := h.get 0 v rfl
    rw [ha] at hn; cases hn
  subst hl
  exact ⟨⟨none, 0, 0⟩, rfl, zJQ.nil w w, Pu.refl w⟩
 ·refine zX8 fun w1 hw1 => ?_
  have hp1 : Pu w w1 := by rw [hw1]; exact Pu.alloc w _
  have hr0 : zQh w1 28 3 ⟨some ⟨w.heap.size, 0, none⟩, 0, 0⟩ [] := ⟨rfl, .inr ⟨_, #[], rfl, by rw [hw1]; exact zXj w _, Nat.le_refl _, Nat.zero_le _, rfl, rfl⟩⟩
  have h1 := h.pu hp1
  have hlen := h.len
  obtain ⟨t, w2, hr, hrow, hf, hblk, _⟩ := zQV (P := prog) (ty := 75) bu75 yYq rfl (by omega) hr0 (A := s.a) (m := s.len) (c := s.cap) (news := l.flatMap zXO) (by rw [zQw zQL, hlen]) (fun j x hx => by
   have hj : j < l.length * 3 := by have := (List.getElem?_eq_some_iff.1 hx).1; rwa [zQw zQL] at this
   obtain ⟨v, hv⟩ := zXD (l := l) (k := j / 3) (by omega)
   obtain ⟨a, ha, c0, c1, c2⟩ := h1.get _ v hv
   have h2 := zZo zQL hv (j % 3) (by omega)
   rw [show j / 3 * 3 + j % 3 = j by omega, hx] at h2
   refine ⟨a, ha, ?_⟩
   have e : a.add j = (a.add (j / 3 * 3)).add (j % 3) := by
    rw [Addr.add_add]; congr 1; omega
   rw [e]
   rcases (by omega : j % 3 = 0 ∨ j % 3 = 1 ∨ j % 3 = 2) with e2 | e2 | e2 <;> rw [e2] at h2 ⊢ <;> simp [zXO] at h2 <;> subst h2 <;> assumption) (fun x hx => by
    obtain ⟨y, _, hy⟩ := List.mem_flatMap.1 hx
    simp [zXO] at hy
    rcases hy with rfl | rfl | rfl <;> rfl) (by show (0 + s.len) * (32 + 1) <= _; omega)
  rw [List.nil_append] at hrow
  refine ⟨t, w2, hr, t, rfl, ⟨hrow, fun b hb => ?_⟩, hp1.andNew hf fun b hb => by simp [zQa] at hb; omega⟩
  rcases hblk b hb with h | h
  ·simp [zQa] at h; omega
  ·have := hp1.size; omega
theorem yQm {s : SV} {l : List Fld} (h : zXH w s l) (hb : l.length <= 1000000) : Calls prog 39 #[.slice s.a s.len s.cap] w fun e w' => ∃ q : SV, e = .returned (.slice q.a q.len q.cap) /\ zQh w' 38 4 q (l.flatMap zVm) /\ (∀ b ∈ zQa q, w.heap.size <= b) /\ Pu w w' := by
 have fl : ∀ f : Fld, (zVm f).length = 4 := fun f => rfl
 refine yJM s w _ ⟨_, w, zJC bu22 _ _ _ _ _ w, Br.of (fun hn => ?_) (fun hn => ?_)⟩
 ·have hl : l = [] := by
   cases l with
   | nil => rfl
   | cons v l =>
    obtain ⟨a, ha, _⟩ := zJf h (i := 0) (f := v) rfl
    rw [ha] at hn; cases hn
  subst hl
  exact ⟨⟨none, 0, 0⟩, rfl, zQh.nil _ _ _, by simp [zQa], Pu.refl w⟩
 ·refine zX8 fun w1 hw1 => ?_
  have hp1 : Pu w w1 := by rw [hw1]; exact Pu.alloc w _
  have hr0 : zQh w1 38 4 ⟨some ⟨w.heap.size, 0, none⟩, 0, 0⟩ [] := ⟨rfl, .inr ⟨_, #[], rfl, by rw [hw1]; exact zXj w _, Nat.le_refl _, Nat.zero_le _, rfl, rfl⟩⟩
  have h1 := h.pu hp1
  have hlen := h.len
  obtain ⟨t, w2, hr, hrow, hf, hblk, _⟩ := zQV (P := prog) (ty := 22) bu22 yYf rfl (by omega) hr0 (A := s.a) (m := s.len) (c := s.cap) (news := l.flatMap zVm) (by rw [zQw fl, hlen]) (fun j x hx => by
   have hj : j < l.length * 4 := by have := (List.getElem?_eq_some_iff.1 hx).1; rwa [zQw fl] at this
   obtain ⟨v, hv⟩ := zXD (l := l) (k := j / 4) (by omega)
   obtain ⟨a, ha, _, _, _, _, c0, c1, c2, c3⟩ := zJf h1 hv
   have h2 := zZo fl hv (j % 4) (by omega)
   rw [show j / 4 * 4 + j % 4 = j by omega, hx] at h2
   refine ⟨a, ha, ?_⟩
   have e : a.add j = (a.add (j / 4 * 4)).add (j % 4) := by
    rw [Addr.add_add]; congr 1; omega
   rw [e]
   rcases (by omega : j % 4 = 0 ∨ j % 4 = 1 ∨ j % 4 = 2 ∨ j % 4 = 3) with e2 | e2 | e2 | e2 <;> rw [e2] at h2 ⊢ <;> simp [zVm] at h2 <;> subst h2 <;> assumption) (fun x hx => by
    obtain ⟨y, _, hy⟩ := List.mem_flatMap.1 hx
    simp [zVm] at hy
    rcases hy with rfl | rfl | rfl | rfl <;> rfl) (by show (0 + s.len) * (40 + 1) <= _; omega)
  rw [List.nil_append] at hrow
  refine ⟨t, w2, hr, t, rfl, hrow, fun b hb => ?_, hp1.andNew hf fun b hb => by simp [zQa] at hb; omega⟩
  rcases hblk b hb with h | h
  ·simp [zQa] at h; omega
  ·have := hp1.size; omega
theorem zWR {g : Bool} {s : SV} {l : List Val} (h : RdV w s l) (hb : l.length <= 1000000) : Calls prog 88 #[.agg #[.bool g, .slice s.a s.len s.cap]] w fun e w' => ∃ q : SV, e = .returned (.agg #[.bool g, .slice q.a q.len q.cap]) /\ zJQ w w' q l /\ Pu w w' := by
 refine yJA _ _ w _ (alB fun w1 hp1 hb1 => alB fun w2 hp2 hb2 => zQl fun w3 hp3 _ => ?_)
 have b1 := hp3.blk (hp2.blk hb1)
 have b2 := hp3.blk hb2
 have hp := (hp1.trans hp2).trans hp3
 have z1 := hp1.size
 have z2 := hp2.size
 have z3 := hp3.size
 refine ⟨fun u => Pu w3 u, Pu.refl _, _, fun u hu => cl0 (hu.blk b1), _, fun u hu => cl (hu.blk b1) 1, (yWh (h.pu hp) hb).mono ?_⟩
 rintro e w4 ⟨q, rfl, hq, hp4⟩
 have l1 : w.heap.size < w1.heap.size := zQH hb1
 have l2 : w1.heap.size < w2.heap.size := zQH hb2
 refine ⟨q, rfl, hp4, zQy (hp4.blk b2) bs77.symm rfl rfl fun w5 hb5 hf5 hs5 => ⟨_, cl hb5 0, _, cl hb5 1, q, rfl, ?_, (hp.trans hp4).andNew hf5 fun i hi => by have hi : i = w1.heap.size := hi; omega⟩⟩
 exact (hq.fr hf5 fun i hi e => by have := hq.2 i hi; have e : i = w1.heap.size := e; omega).low (by omega)
structure zZ4 (w : World) (s : SV) (rs : List Rec) : Prop where
 len : s.len = rs.length
 get : ∀ i r, rs[i]? = some r -> ∃ a t, s.a = some a /\ w.cell? ((a.add (i * 2)).add 0) = some (.bool r.gone) /\ w.cell? ((a.add (i * 2)).add 1) = some (.slice t.a t.len t.cap) /\ RdV w t r.v
theorem zZ4.pu {s : SV} {rs : List Rec} (h : zZ4 w s rs) (hp : Pu w w') : zZ4 w' s rs := ⟨h.len, fun i r hr => by
 obtain ⟨a, t, h1, h2, h3, h4⟩ := h.get i r hr
 exact ⟨a, t, h1, hp.cell h2, hp.cell h3, h4.pu hp⟩⟩
theorem zZ4.of {s : SV} {rs : List Rec} (h : zXH w s rs) : zZ4 w s rs := ⟨h.len, fun i r hr => by
 obtain ⟨a, t, h1, _, h2, h3, h4⟩ := yWq h hr
 exact ⟨a, t, h1, h3, h4, RdV.of h2⟩⟩
def zQU (w : World) : List zQu -> List Rec -> Prop
 | [], [] => True
 | h :: hs, r :: rs => (h.g = r.gone /\ zQh w 28 3 h.s (r.v.flatMap zXO)) /\ zQU w hs rs
 | _, _ => False
theorem zQU.fr {B : Nat -> Prop} (hf : Fr B w w') : ∀ {hs : List zQu} {rs : List Rec}, zQU w hs rs -> (∀ b ∈ vB hs, ¬ B b) -> zQU w' hs rs
 | [], [], _, _ => trivial
 | h :: hs, r :: rs, ⟨⟨h1, h2⟩, h3⟩, hn => ⟨⟨h1, h2.fr hf fun b hb => hn b (by rw [zQZ]; exact List.mem_append_left _ hb)⟩, zQU.fr hf h3 fun b hb => hn b (by rw [zQZ]; exact List.mem_append_right _ hb)⟩
theorem zQU.push {h : zQu} {r : Rec} : ∀ {hs : List zQu} {rs : List Rec}, zQU w hs rs -> h.g = r.gone -> zQh w 28 3 h.s (r.v.flatMap zXO) -> zQU w (hs ++ [h]) (rs ++ [r])
 | [], [], _, h1, h2 => ⟨⟨h1, h2⟩, trivial⟩
 | x :: hs, y :: rs, ⟨a, b⟩, h1, h2 => ⟨a, zQU.push b h1 h2⟩
theorem zQU.len : ∀ {hs : List zQu} {rs : List Rec}, zQU w hs rs -> hs.length = rs.length
 | [], [], _ => rfl
 | x :: hs, y :: rs, ⟨_, b⟩ => by simp [zQU.len b]
structure zX2 (w0 w : World) (q : SV) (hs : List zQu) (rs : List Rec) : Prop where
 row : zQh w 77 2 q (hs.flatMap yXR)
 new : ∀ b ∈ zQa q, w0.heap.size <= b
 recs : zQU w hs rs
 vnew : ∀ b ∈ vB hs, w0.heap.size <= b /\ b ∉ zQa q
 nd : (vB hs).Nodup
theorem zX2.pu {w0 : World} {q : SV} {hs : List zQu} {rs : List Rec} (h : zX2 w0 w q hs rs) (hp : Pu w w') : zX2 w0 w' q hs rs := ⟨h.row.pu hp, h.new, h.recs.fr (Fr.pu hp : Fr (fun _ => False) w w') fun _ _ h => h, h.vnew, h.nd⟩
theorem yJ2 (s : SV) : (zQa s).Nodup := by unfold zQa; split <;> simp
theorem zWY (l : List zQu) (h : zQu) : vB (l ++ [h]) = vB l ++ zQa h.s := by simp [vB]
theorem zKD {s : SV} {rs : List Rec} (h : zZ4 w s rs) (hb : rs.length <= 100000) (hv : ∀ r ∈ rs, r.v.length <= 1000000) : Calls prog 40 #[.slice s.a s.len s.cap] w fun e w' => ∃ (q : SV) (hs : List zQu), e = .returned (.slice q.a q.len q.cap) /\ zX2 w w' q hs rs /\ Pu w w' := by
 have hlen := h.len
 refine yJo s w _ ?_
 refine zQ8 rs.length (fun k t w' => t.2 = (k : Int) /\ ∃ hs, zX2 w w' t.1 hs (rs.take k) /\ Pu w w') ⟨rfl, [], ⟨zQh.nil _ _ _, by simp [zQa], trivial, by simp [vB], by simp [vB]⟩, Pu.refl _⟩ ?_
 rintro k J ⟨q, t⟩ w1 hk ⟨ht, hs, hq, hp1⟩ hJ
 obtain rfl : t = (k : Int) := ht
 dsimp only
 have hq : zX2 w w1 q hs (rs.take k) := hq
 have hql := hq.row.len zQm (by decide)
 have hhl := hq.recs.len
 have htl := List.length_take_le k rs
 refine Br.of (fun d1 => ?_) (fun d1 => ?_)
 ·have hkn : k < rs.length := by have := zQn d1; omega
  obtain ⟨r, hr⟩ := zXD hkn
  obtain ⟨a, t, ha, c0, c1, hV⟩ := (h.pu hp1).get k r hr
  refine ⟨a, ha, by omega, by omega, r.gone, by rw [zZa]; exact c0, t, by rw [zZa]; exact c1, ?_⟩
  refine alB fun w2 hp2 hb2 => zQy hb2 bs77.symm rfl rfl fun w3 hb3 hf3 hs3 => ?_
  have hp3 : Pu w1 w3 := hp2.andNew hf3 fun i hi => by rw [show i = _ from hi]; exact Nat.le_refl _
  refine ⟨_, cl hb3 0, _, cl hb3 1, (zWR (hV.pu hp3) (hv r (List.mem_of_getElem? hr))).mono ?_⟩
  rintro e w4 ⟨s', rfl, hs', hp4⟩
  refine ⟨_, s', rfl, alB fun w5 hp5 hb5 => ?_⟩
  have z1 := hp1.size
  have z3 := hp3.size
  have z4 := hp4.size
  have z5 := hp5.size
  have hp15 := (hp3.trans hp4).trans hp5
  have hq5 := hq.pu hp15
  have hlt5 : ∀ b ∈ zQa s', b < w4.heap.size := hs'.1.lt
  have hqlt : ∀ b ∈ zQa q, b < w1.heap.size := hq.row.lt
  obtain ⟨q', w6, hra, hrow6, hf6, hblk6, _⟩ := zQV (P := prog) (ty := 23) bu23 zYN rfl (by omega) hq5.row (A := some ⟨w4.heap.size, 0, none⟩) (m := 1) (c := 1) (news := [.bool r.gone, .slice s'.a s'.len s'.cap]) rfl (fun j x hx => ⟨_, rfl, by rw [cl hb5]; simpa using hx⟩) (fun x hx => by simp at hx; rcases hx with rfl | rfl <;> rfl) (by show (q.len + 1) * (32 + 1) <= _; omega)
  refine ⟨q', w6, hra, ?_⟩
  rw [zQe (by omega) (by omega)]
  refine hJ _ _ hkn ⟨by simp, hs ++ [⟨r.gone, s'⟩], ⟨?_, fun b hb => ?_, ?_, fun b hb => ?_, ?_⟩, (hp1.trans hp15).andNew hf6 fun b hb => hq.new b hb⟩
  ·rw [List.flatMap_append, List.flatMap_singleton]; exact hrow6
  ·rcases hblk6 b hb with h1 | h1
   ·exact hq.new b h1
   ·omega
  ·rw [zQQ hr]
   refine ((hq5.recs).fr hf6 fun b hb => (hq.vnew b hb).2).push rfl ((hs'.1.pu hp5).fr hf6 fun b hb hx => ?_)
   have := hs'.2 b hb
   have := hqlt b hx
   omega
  ·rw [zWY, List.mem_append] at hb
   have hq' : ∀ b, b ∈ zQa q' -> b ∈ zQa q ∨ w5.heap.size <= b := hblk6
   rcases hb with hb | hb
   ·have h1 := hq.vnew b hb
    refine ⟨h1.1, fun hx => ?_⟩
    rcases hq' b hx with h2 | h2
    ·exact h1.2 h2
    ·have : b < w5.heap.size := by
      obtain ⟨y, hy, hyb⟩ := List.mem_flatMap.1 hb
      have hrec : ∀ (hs : List zQu) (rs : List Rec), zQU w5 hs rs -> ∀ y ∈ hs, ∀ b ∈ zQa y.s, b < w5.heap.size := fun hs => by
       induction hs with
       | nil => intro rs _ y hy; cases hy
       | cons x hs ih => intro rs hR y hy b hb; cases rs with
        | nil => exact hR.elim
        | cons z rs =>
         rcases List.mem_cons.1 hy with rfl | hy
         ·exact hR.1.2.lt b hb
         ·exact ih rs hR.2 y hy b hb
      exact hrec _ _ hq5.recs y hy b hyb
     omega
   ·have h1 := hs'.2 b hb
    have h3 := hlt5 b hb
    refine ⟨by omega, fun hx => ?_⟩
    rcases hq' b hx with h2 | h2
    ·have := hqlt b h2; omega
    ·omega
  ·rw [zWY]
   refine List.nodup_append.2 ⟨hq.nd, yJ2 _, fun a ha b hb e => ?_⟩
   subst e
   have h1 := hs'.2 a hb
   obtain ⟨y, hy, hyb⟩ := List.mem_flatMap.1 ha
   have hrec : ∀ (hs : List zQu) (rs : List Rec), zQU w1 hs rs -> ∀ y ∈ hs, ∀ b ∈ zQa y.s, b < w1.heap.size := fun hs => by
    induction hs with
    | nil => intro rs _ y hy; cases hy
    | cons x hs ih => intro rs hR y hy b hb; cases rs with
     | nil => exact hR.elim
     | cons z rs =>
      rcases List.mem_cons.1 hy with rfl | hy
      ·exact hR.1.2.lt b hb
      ·exact ih rs hR.2 y hy b hb
   have := hrec _ _ hq.recs y hy a hyb
   omega
 ·have hkn : k = rs.length := by have := zQg d1; omega
  subst hkn
  rw [List.take_length] at hq
  exact ⟨q, hs, rfl, hq, hp1⟩
end Go.Proofs.YtcihcbfcgjepfaaGreatDoor
/- Desks: a record as a user sees it; a value of a record; the lock of a record. No condition but those stated. -/
namespace Go.Proofs.YtcihcbfcgjepfaaGreatDoor
open Go.Sh Go.RowKit Tryz
variable {w w' : World} {d d' : zQq} {val : Nat -> List Val} {mu : Int}
theorem zQb.page (h : zQb w d mu val) : w.cell? ((⟨d.S, 0, none⟩ : Addr).add 2) = some (.int .i64 d.page) := by rw [h.cellA]; rfl
theorem zQb.flds (h : zQb w d mu val) : w.cell? (((⟨d.S, 0, none⟩ : Addr).add 2).add 1) = some (.slice d.fs.a d.fs.len d.fs.cap) := by rw [zQf, zQf, h.cell]; rfl
theorem zQb.recs (h : zQb w d mu val) : w.cell? (((⟨d.S, 0, none⟩ : Addr).add 2).add 2) = some (.slice d.rs.a d.rs.len d.rs.cap) := by rw [zQf, zQf, h.cell]; rfl
theorem zQb.locks (h : zQb w d mu val) : w.cell? ((⟨d.S, 0, none⟩ : Addr).add 21) = some (.map (some d.L)) := by rw [h.cellA]; rfl
theorem zQb.uMode (h : zQb w d mu val) {u : Nat} (hu : u < 4) : w.cell? (uA d u) = some (.int .i64 (d.mode u)) := by
 have := h.cellU hu 0
 rw [yZB] at this
 rw [this]; exact zVS hu
theorem zQb.uAt (h : zQb w d mu val) {u : Nat} (hu : u < 4) : w.cell? ((uA d u).add 1) = some (.int .i64 (d.at_ u)) := by rw [h.cellU hu]; exact yZt hu
theorem zQb.uCh (h : zQb w d mu val) {u : Nat} (hu : u < 4) : w.cell? ((uA d u).add 2) = some (.map (some (d.C u))) := by rw [h.cellU hu]; exact yVM hu
theorem zQb.uAp (h : zQb w d mu val) {u : Nat} (hu : u < 4) : w.cell? ((uA d u).add 3) = some (.slice (d.asv u).a (d.asv u).len (d.asv u).cap) := by rw [h.cellU hu]; exact yZA hu
theorem zQb.rs_len (h : zQb w d mu val) : d.rs.len = d.rh.length := h.bd.rw_.len zQm (by decide)
theorem yQY : Keys prog 3 zXp := yQ0 (q := .i64) (by kernel_rfl)
def h0 : zQu := ⟨false, ⟨none, 0, 0⟩⟩
def recV (h : zQu) : Value := .agg #[.bool h.g, .slice h.s.a h.s.len h.s.cap]
def chG (l : List Chg) (k : Int) : zQu × zQu := (AL.get l k).getD (h0, h0)
theorem yZu {b : Nat} {l : List Chg} (h : zQ3 w zXp chV b l) (k : Int) : (Instr.lookup 88 (.map (some b)) (.int .i64 k) true).run prog w = .ok (.tuple #[chV (chG l k), .bool (AL.get l k).isSome]) w := by
 have := h.look (P := prog) (t := 88) (kt := 3) (e := 133) yQY yYz (z := .agg #[.bool false, .slice none 0 0, .bool false, .slice none 0 0]) (Tryz.zeroValue133 w) k true
 rw [show (.int .i64 k : Value) = zXp k from rfl, this]
 unfold chG
 cases AL.get l k <;> rfl
theorem yJt {b : Nat} {l : List (Int × Int)} (h : zQ3 w zXp zXp b l) (k : Int) : (Instr.lookup 80 (.map (some b)) (.int .i64 k) true).run prog w = .ok (.tuple #[.int .i64 ((AL.get l k).getD 0), .bool (AL.get l k).isSome]) w := by
 have := h.look (P := prog) (t := 80) (kt := 3) (e := 3) yQY bu80 (z := .int .i64 0) (Tryz.zeroValue3 w) k true
 rw [show (.int .i64 k : Value) = zXp k from rfl, this]
 cases AL.get l k <;> rfl
theorem zZ2 (val : Nat -> List Val) : ∀ (l : List Chg) (k : Int), AL.get (l.map (toC val)) k = (AL.get l k).map fun c => (toR val c.1, toR val c.2)
 | [], k => rfl
 | (a, b) :: l, k => by
  simp only [List.map_cons, toC, AL.get]
  by_cases e : a = k
  ·simp [e]
  ·simp only [e, if_false]; exact zZ2 val l k
def zZv (d : zQq) (u : Nat) (k : Int) : Option zQu := if k < 0 then (d.ah u)[(-k - 1).toNat]? else if k < 1 ∨ k > d.rh.length then none else match AL.get (d.ch u) k with
 | some c => some c.2
 | none => d.rh[(k - 1).toNat]?
theorem yZb (d : zQq) (val : Nat -> List Val) (u : Nat) (k : Int) : (zZv d u k).map (toR val) = zWk (zQc d val) u k := by
 unfold zZv zWk
 have e1 : ((zQc d val).us u).ap = (d.ah u).map (toR val) := rfl
 have e2 : ((zQc d val).us u).ch = (d.ch u).map (toC val) := rfl
 have e3 : (zQc d val).recs = d.rh.map (toR val) := rfl
 rw [e1, e2, e3, zZ2, List.length_map]
 split
 ·rw [List.getElem?_map]
 ·split
  ·rfl
  ·cases AL.get (d.ch u) k with
   | none => simp [List.getElem?_map]
   | some c => rfl
theorem seen_c (h : zQb w d mu val) {u : Nat} (hu : u < 4) (k : Int) (ha : (d.ah u).length <= 1000000) (hr : d.rh.length <= 1000000) :
  Calls prog 49 #[d.ptr, .pointer (some (uA d u)), .int .i64 k] w fun e w' => e = .returned (.tuple #[recV ((zZv d u k).getD h0), .bool (zZv d u k).isSome]) /\ Pu w w' := by
 refine yZg _ _ k w _ (alB fun w1 hp1 hb1 => ?_)
 have h1 := h.pu hp1
 have hal := h.as_len hu
 have hrl := h.rs_len
 have fin : ∀ {w2 : World} (x : zQu) (b : Bool), Pu w1 w2 -> ((zZv d u k).getD h0 = x /\ (zZv d u k).isSome = b) -> stA prog 77 ⟨w.heap.size, 0, none⟩ #[.bool x.g, .slice x.s.a x.s.len x.s.cap] w2 fun w3 => ∃ bR0_0 : Bool, w3.cell? ((⟨w.heap.size, 0, none⟩ : Addr).add 0) = some (.bool bR0_0) /\
   ∃ lR0_1 : SV, w3.cell? ((⟨w.heap.size, 0, none⟩ : Addr).add 1) = some (.slice lR0_1.a lR0_1.len lR0_1.cap) /\ (Ending.returned (.tuple #[.agg #[.bool bR0_0, .slice lR0_1.a lR0_1.len lR0_1.cap], .bool b]) = .returned (.tuple #[recV ((zZv d u k).getD h0), .bool (zZv d u k).isSome]) /\ Pu w w3) := fun {w2} x b hp hx =>
  zQy (hp.blk hb1) bs77.symm rfl rfl fun w3 hb3 hf3 _ => ⟨_, cl hb3 0, _, cl hb3 1, by rw [hx.1, hx.2]; rfl, (hp1.trans hp).andNew hf3 fun i hi => by rw [show i = w.heap.size from hi]; exact Nat.le_refl _⟩
 refine Br.of (fun c => ?_) (fun c => ?_)
 ·have c := zQn c
  refine ⟨d.asv u, h1.uAp hu, ?_⟩
  rw [zQe (by omega) (by omega)]
  refine Br.of (fun c2 => ?_) (fun c2 => ?_)
  ·have c2 := zQn c2
   have hlt : (-k - 1).toNat < (d.ah u).length := by omega
   obtain ⟨x, hx⟩ := zXD hlt
   obtain ⟨a, ea, _, g0⟩ := (h1.bd.aw u hu).elem zQm hx (o := 0) (v := .bool x.g) rfl
   obtain ⟨a', ea', _, g1⟩ := (h1.bd.aw u hu).elem zQm hx (o := 1) (v := .slice x.s.a x.s.len x.s.cap) rfl
   obtain rfl : a = a' := by rw [ea] at ea'; exact Option.some.inj ea'
   have ew : IntKind.i64.wrap ((IntKind.i64.wrap (0 - k)) - 1) = -k - 1 := by rw [zQe (n := 0 - k) (by omega) (by omega), zQe (by omega) (by omega)]; omega
   refine ⟨d.asv u, h1.uAp hu, a, ea, ?_⟩
   rw [ew]
   refine ⟨by omega, by omega, x.g, g0, x.s, g1, fin x true (Pu.refl _) ?_⟩
   have : zZv d u k = some x := by rw [zZv, if_pos c, hx]
   rw [this]; exact ⟨rfl, rfl⟩
  ·have c2 := zQg c2
   have hn : zZv d u k = none := by rw [zZv, if_pos c, List.getElem?_eq_none]; omega
   refine Br.of (fun _ => fin h0 false (Pu.refl _) (by rw [hn]; exact ⟨rfl, rfl⟩)) (fun c3 => ?_)
   have := zQg c3; omega
 ·have c := zQg c
  refine Br.of (fun c1 => ?_) (fun c1 => ?_)
  ·have c1 := zQn c1
   exact fin h0 false (Pu.refl _) (by rw [zZv, if_neg c, if_pos (.inl c1)]; exact ⟨rfl, rfl⟩)
  have c1 := zQg c1
  refine ⟨d.rs, h1.recs, Br.of (fun c2 => ?_) (fun c2 => ?_)⟩
  ·have c2 := zQn c2
   exact fin h0 false (Pu.refl _) (by rw [zZv, if_neg c, if_pos (.inr (by omega))]; exact ⟨rfl, rfl⟩)
  have c2 := zQg c2
  have hx : zZv d u k = match AL.get (d.ch u) k with | some c => some c.2 | none => d.rh[(k - 1).toNat]? := by rw [zZv, if_neg c, if_neg (by omega)]
  refine ⟨some (d.C u), h1.uCh hu, _, (chG (d.ch u) k).1.s, _, (chG (d.ch u) k).2.s, _, w1, yZu (h1.mp hu) k, alB fun w2 hp2 hb2 => zQy hb2 yKO.symm rfl rfl fun w3 hb3 hf3 _ => ?_⟩
  have hp3 : Pu w1 w3 := hp2.andNew hf3 fun i hi => by rw [show i = w1.heap.size from hi]; exact Nat.le_refl _
  have h3 := h1.pu hp3
  refine Br.of (fun c4 => ?_) (fun c4 => ?_)
  ·obtain ⟨c, hc⟩ := Option.isSome_iff_exists.1 c4
   rw [hc] at hx
   have eg : chG (d.ch u) k = c := by rw [chG, hc]; rfl
   rw [eg] at hb3
   refine ⟨c.2.g, ?_, c.2.s, ?_, fin c.2 true hp3 (by rw [hx]; exact ⟨rfl, rfl⟩)⟩
   ·rw [zQf, zQf, zQs hb3]; rfl
   ·rw [zQf, zQf, zQs hb3]; rfl
  ·have hc : AL.get (d.ch u) k = none := by simpa using c4
   rw [hc] at hx
   have hlt : (k - 1).toNat < d.rh.length := by omega
   obtain ⟨x, hxx⟩ := zXD hlt
   rw [hxx] at hx
   obtain ⟨a, ea, _, g0⟩ := h3.bd.rw_.elem zQm hxx (o := 0) (v := .bool x.g) rfl
   obtain ⟨a', ea', _, g1⟩ := h3.bd.rw_.elem zQm hxx (o := 1) (v := .slice x.s.a x.s.len x.s.cap) rfl
   obtain rfl : a = a' := by rw [ea] at ea'; exact Option.some.inj ea'
   refine ⟨d.rs, h3.recs, a, ea, ?_⟩
   rw [zQe (by omega) (by omega)]
   exact ⟨by omega, by omega, x.g, g0, x.s, g1, fin x true hp3 (by rw [hx]; exact ⟨rfl, rfl⟩)⟩
end Go.Proofs.YtcihcbfcgjepfaaGreatDoor
/- Desks: fields, read; a value of a record. No condition but those stated. -/
namespace Go.Proofs.YtcihcbfcgjepfaaGreatDoor
open Go.Sh Go.RowKit Tryz
variable {w w' : World} {d d' : zQq} {val : Nat -> List Val} {mu : Int}
theorem zXZ (f : Fld) : (zVm f).length = 4 := rfl
theorem yVh {s : SV} {l : List Fld} (h : zQh w 38 4 s (l.flatMap zVm)) (hb : l.all zQr = true) (hn : l.length <= 16) : zXH w s l := by
 have hl := h.len zXZ (by decide)
 refine ⟨hl, h.le_cap.1, by omega, fun i f hf => ?_⟩
 have hB := zWu (List.all_eq_true.1 hb f (List.mem_of_getElem? hf))
 obtain ⟨a, ha, _, _⟩ := h.elem zXZ hf (o := 0) rfl
 refine ⟨a, ha, zVm f, ⟨rfl, hB.1, hB.2.1⟩, fun j v hv => ?_⟩
 obtain ⟨a', ha', _, hc⟩ := h.elem zXZ hf (o := j) hv
 rw [ha] at ha'; cases ha'
 exact hc
theorem zQb.fld (h : zQb w d mu val) (hv : zQT d.flds = 0) : zXH w d.fs d.flds := yVh h.bd.fl (zQO hv).2.1 (zQO hv).2.2
theorem zQb.vals (h : zQb w d mu val) {x : zQu} (hx : x ∈ zXs d) (hl : (hv val x).length <= 1000000) : RdV w x.s (hv val x) := zJQ.rd (w0 := { w with heap := #[] }) ⟨h.bd.vr x hx, fun _ _ => Nat.zero_le _⟩ (by omega)
theorem yZq {l : List Fld} {s : ByteArray} {i : Nat} (h : zVn l s = some i) : i < l.length := by
 unfold zVn at h
 obtain ⟨h1, _⟩ := List.findIdx?_eq_some_iff_getElem.1 h
 exact h1
theorem yYJ (h : zQb w d mu val) (hvf : zQT d.flds = 0) {g b : Bool} {s : SV} {l : List Val} (hs : b = true -> RdV w s l /\ l.length = d.flds.length) (field : ByteArray) :
  Calls prog 56 #[d.ptr, .agg #[.bool g, .slice s.a s.len s.cap], .bool b, .string field] w fun e w' =>
   e = .returned (.tuple #[zKq (zJ7 (zQc d val) (if b then some ⟨g, l⟩ else none) field).1, .int .i64 (zJ7 (zQc d val) (if b then some ⟨g, l⟩ else none) field).2]) /\ Pu w w' := by
 refine yKa _ _ _ _ _ w _ (alB fun w1 hp1 hb1 => alB fun w2 hp2 hb2 => ?_)
 have hp02 := hp1.trans hp2
 have h2 := h.pu hp02
 refine ⟨d.fs, h2.flds, (yZE (h2.fld hvf) field).mono ?_⟩
 rintro e w4 ⟨rfl, hp4⟩
 have hp04 := hp02.trans hp4
 have hb4 := hp4.blk hb2
 have z1 := hp1.size
 have z2 := hp2.size
 have e0 : (zQc d val).flds = d.flds := rfl
 have fin : ∀ (v : Val) (n : Int), zJ7 (zQc d val) (if b then some ⟨g, l⟩ else none) field = (v, n) -> stA prog 28 ⟨w1.heap.size, 0, none⟩ #[.int .i64 v.kind, .int .i64 v.n, .string v.s] w4 fun w5 =>
   ∃ nR0_0 : Int, w5.cell? ((⟨w1.heap.size, 0, none⟩ : Addr).add 0) = some (.int .i64 nR0_0) /\ ∃ nR0_1 : Int, w5.cell? ((⟨w1.heap.size, 0, none⟩ : Addr).add 1) = some (.int .i64 nR0_1) /\ ∃ sR0_2 : ByteArray, w5.cell? ((⟨w1.heap.size, 0, none⟩ : Addr).add 2) = some (.string sR0_2) /\
   (Ending.returned (.tuple #[.agg #[.int .i64 nR0_0, .int .i64 nR0_1, .string sR0_2], .int .i64 n]) = .returned (.tuple #[zKq (zJ7 (zQc d val) (if b then some ⟨g, l⟩ else none) field).1, .int .i64 (zJ7 (zQc d val) (if b then some ⟨g, l⟩ else none) field).2]) /\ Pu w w5) := fun v n hv =>
  zQy hb4 yKr.symm rfl rfl fun w5 hb5 hf5 _ => ⟨_, cl hb5 0, _, cl hb5 1, _, cl hb5 2, by rw [hv], hp04.andNew hf5 fun i hi => by rw [show i = w1.heap.size from hi]; omega⟩
 refine ⟨_, _, rfl, Br.of (fun c => ?_) (fun c => ?_)⟩
 ·have c : b = false := by simpa using c
  refine fin noV 4 ?_
  rw [c]; rfl
 have c : b = true := by simpa using c
 obtain ⟨hV, hlen⟩ := hs c
 refine Br.of (fun c1 => ?_) (fun c1 => ?_)
 ·refine fin noV 4 ?_
  have c1 : zVn d.flds field = none := by simpa using c1
  simp only [c, if_true, zJ7, e0, c1]
 ·have c1 : (zVn d.flds field).isSome = true := by simpa using c1
  obtain ⟨i, hi⟩ := Option.isSome_iff_exists.1 c1
  have hil : i < l.length := by rw [hlen]; exact yZq hi
  obtain ⟨v, hv⟩ := zXD hil
  have eK : idxK d.flds field = (i : Int) := by rw [idxK, hi]; rfl
  obtain ⟨a, ha, c0, c1, c2⟩ := (hV.pu hp04).get i v hv
  have hb14 := hp4.blk (hp2.blk hb1)
  have hsl := hV.len
  rw [eK]
  refine ⟨s, cl hb14 1, a, ha, by omega, by omega, v.kind, c0, v.n, c1, v.s, c2, fin v 0 ?_⟩
  simp only [c, if_true, zJ7, e0, hi]
  rw [List.getD_eq_getElem?_getD, hv]; rfl
end Go.Proofs.YtcihcbfcgjepfaaGreatDoor
/- Desks: what looks at values: Get, Old, Now, Locked. No condition but those stated. -/
namespace Go.Proofs.YtcihcbfcgjepfaaGreatDoor
open Go.Sh Go.RowKit Tryz
variable {w w' : World} {d d' : zQq} {val : Nat -> List Val} {mu : Int}
theorem zQ4.out (h : zQ4 w d val) {r : Nat} (hr : w.heap.size <= r) : d.o r = none := by
 cases e : d.o r with
 | none => rfl
 | some κ =>
  have := h.lt r (by rw [e]; simp)
  omega
structure yQf (w w2 : World) (d : zQq) (val : Nat -> List Val) : Prop where
 at_ : zQb w2 d 1 val
 fr : Fr (fun b => d.o b ≠ none) w w2
theorem yQf.pu {w3 : World} (h : yQf w w' d val) (hp : Pu w' w3) : yQf w w3 d val := ⟨h.at_.pu hp, h.fr.trans (Fr.pu hp : Fr (fun b => d.o b ≠ none) w' w3) fun i hi _ => hi⟩
theorem yQf.left (h : yQf w w' d val) {K : World -> Prop} (hK : ∀ w3, zQ2 w w3 d d 0 val -> Fr (· = d.S) w' w3 -> w3.heap.size = w'.heap.size -> K w3) : zQd prog [zZj d] w' K :=
 yZz h.at_ fun w3 h3 hf hs => hK w3 ⟨h3, h.fr.trans hf fun i hi _ => by rw [show i = d.S from hi, h.at_.bd.oS]; simp, fun _ h => .inl h, rfl⟩ hf hs
theorem zX1 (h : zQb w d 0 val) {w1 : World} (hp : Pu w w1) (u : Int) :
  Calls prog 47 #[d.ptr, .int .i64 u] w1 fun e w' => e = .returned (.tuple #[uV d u, yVR d, .int .i64 (uC u)]) /\ yQf w w' d val /\ Fr (· = d.S) w1 w' /\ w'.heap.size = w1.heap.size := by
 refine (yJY (h.pu hp) u).mono ?_
 rintro e w2 ⟨he, h2, hf, hs⟩
 exact ⟨he, ⟨h2, (Fr.pu hp : Fr (fun b => d.o b ≠ none) w w1).trans hf fun i hi _ => by rw [show i = d.S from hi, h.bd.oS]; simp⟩, hf, hs⟩
theorem yJU (h : zQb w d 0 val) {r : Nat} (hr : w.heap.size <= r) {w2 : World} (h2 : yQf w w2 d val) {c : Array Value} (hc : c.size = 3) (hb : w2.heap[r]? = some (.cells c 28)) (v : Val) (n : Int) {x : Val × Int} (hx : x = (v, n)) :
  stA prog 28 ⟨r, 0, none⟩ #[.int .i64 v.kind, .int .i64 v.n, .string v.s] w2 fun w3 => zQd prog [zZj d] w3 fun w4 => ∃ n0 : Int, w4.cell? ((⟨r, 0, none⟩ : Addr).add 0) = some (.int .i64 n0) /\
   ∃ n1 : Int, w4.cell? ((⟨r, 0, none⟩ : Addr).add 1) = some (.int .i64 n1) /\ ∃ s2 : ByteArray, w4.cell? ((⟨r, 0, none⟩ : Addr).add 2) = some (.string s2) /\ (Ending.returned (.tuple #[.agg #[.int .i64 n0, .int .i64 n1, .string s2], .int .i64 n]) = .returned (.tuple #[zKq x.1, .int .i64 x.2]) /\ zQ2 w w4 d d 0 val) := by
 have ho : d.o r = none := h.bd.out hr
 refine zQy hb yKr.symm hc rfl fun w3 hb3 hf3 hs3 => ?_
 have h3 : yQf w w3 d val := ⟨h2.at_.fr hf3 fun b hb e => by rw [show b = r from e] at hb; exact hb ho, h2.fr.trans hf3 fun i hi hlt => by have hi : i = r := hi; omega⟩
 refine h3.left fun w4 hL hf4 _ => ?_
 have hb4 := hf4.blk hb3 (fun e => by rw [show r = d.S from e, h.bd.oS] at ho; cases ho)
 exact ⟨_, cl hb4 0, _, cl hb4 1, _, cl hb4 2, by rw [hx], hL⟩
theorem Inv.rh (h : Inv (zQc d val)) : d.rh.length <= 300 := by have := h.r300; simpa [zQc] using this
theorem Inv.ah (h : Inv (zQc d val)) {u : Nat} (hu : u < 4) : (d.ah u).length <= 300 := by have := h.a300 hu; rwa [zKJ] at this
theorem Inv.good (h : Inv (zQc d val)) {x : zQu} (hx : x ∈ zXs d) (hl : Low d) : zQx d.flds d.page (toR val x) = 0 := by
 have key : ∀ u, u < 4 -> x ∈ uH d u -> zQx d.flds d.page (toR val x) = 0 := fun u hu hx => by
  rcases List.mem_append.1 hx with hx | hx
  ·obtain ⟨c, hc, hx⟩ := List.mem_flatMap.1 hx
   have := (h.gc u hu (toC val c) (List.mem_map.2 ⟨c, hc, rfl⟩)).1
   simp at hx
   rcases hx with rfl | rfl
   ·exact this.1
   ·exact this.2
  ·exact h.ga u hu _ (List.mem_map.2 ⟨x, hx, rfl⟩)
 unfold zXs at hx
 simp only [List.mem_append] at hx
 rcases hx with hx | hx | hx | hx | hx
 ·exact h.gr _ (List.mem_map.2 ⟨x, hx, rfl⟩)
 ·exact key 0 (by omega) hx
 ·exact key 1 (by omega) hx
 ·exact key 2 (by omega) hx
 ·exact key 3 (by omega) hx
theorem zQb.read (h : zQb w d mu val) (hI : Inv (zQc d val)) {x : zQu} (hx : x ∈ zXs d) : RdV w x.s (hv val x) /\ (hv val x).length = d.flds.length := by
 have h1 : (hv val x).length = d.flds.length := zQz (hI.good hx h.bd.low)
 have h2 : d.flds.length <= 16 := hI.f16
 exact ⟨h.vals hx (by omega), h1⟩
theorem now_c (h : zQb w d 0 val) (hI : Inv (zQc d val)) (k : Int) (field : ByteArray) :
  Calls prog 18 #[d.ptr, .int .i64 k, .string field] w fun e w' => e = .returned (.tuple #[zKq (yKs k field (zQc d val)).1, .int .i64 (yKs k field (zQc d val)).2]) /\ zQ2 w w' d d 0 val := by
 refine yZR _ k field w _ (alB fun w1 hp1 hb1 => (zX1 h hp1 0).mono ?_)
 rintro e w2 ⟨rfl, h2, hf2, hs2⟩
 have z1 := hp1.size
 have ho : d.o w.heap.size = none := h.bd.out (Nat.le_refl _)
 have nS : ¬ w.heap.size = d.S := fun e => by rw [e, h.bd.oS] at ho; cases ho
 have hb2 := hf2.blk hb1 nS
 have el : (zQc d val).recs.length = d.rh.length := by simp [zQc]
 have hrl := h2.at_.rs_len
 have h300 := hI.rh
 refine ⟨_, _, _, rfl, ?_⟩
 refine Br.of (fun c1 => ?_) (fun c1 => ?_)
 rotate_left
 refine ⟨d.rs, h2.at_.recs, ?_⟩
 refine Br.of (fun c2 => ?_) (fun c2 => ?_)
 rotate_left 2
 ·have c1 := zQn c1
  have e2 : yKs k field (zQc d val) = (noV, 4) := by rw [yKs, if_pos (.inl c1)]
  exact yJU h (Nat.le_refl _) h2 rfl hb2 noV 4 e2
 ·have c2 := zQn c2
  have e2 : yKs k field (zQc d val) = (noV, 4) := by rw [yKs, if_pos (.inr (by omega))]
  exact yJU h (Nat.le_refl _) h2 rfl hb2 noV 4 e2
 ·have c1 := zQg c1
  have c2 := zQg c2
  have hlt : (k - 1).toNat < d.rh.length := by omega
  obtain ⟨x, hx⟩ := zXD hlt
  obtain ⟨a, ea, _, g0⟩ := h2.at_.bd.rw_.elem zQm hx (o := 0) (v := .bool x.g) rfl
  obtain ⟨a', ea', _, g1⟩ := h2.at_.bd.rw_.elem zQm hx (o := 1) (v := .slice x.s.a x.s.len x.s.cap) rfl
  obtain rfl : a = a' := by rw [ea] at ea'; exact Option.some.inj ea'
  refine ⟨d.rs, h2.at_.recs, a, ea, ?_⟩
  rw [zQe (by omega) (by omega)]
  refine ⟨by omega, by omega, x.g, g0, x.s, g1, (yYJ h2.at_ hI.vf (l := hv val x) (fun _ => h2.at_.read hI (zXn (List.mem_of_getElem? hx))) field).mono ?_⟩
  rintro e w8 ⟨rfl, hp8⟩
  have e2 : yKs k field (zQc d val) = zJ7 (zQc d val) (if true then some ⟨x.g, hv val x⟩ else none) field := by
   rw [yKs, if_neg (by omega), zJJ]
   have : (zQc d val).recs.getD (k - 1).toNat default = toR val x := by
    show (d.rh.map (toR val)).getD _ _ = _
    rw [List.getD_eq_getElem?_getD, List.getElem?_map, hx]; rfl
   rw [this]; rfl
  refine ⟨_, _, _, _, rfl, ?_⟩
  exact yJU h (Nat.le_refl _) (h2.pu hp8) rfl (hp8.blk hb2) _ _ e2
end Go.Proofs.YtcihcbfcgjepfaaGreatDoor
