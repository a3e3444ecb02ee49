import Derived.Test.YtcihcbfcgjepfaaGreatDoorBfOwC
import Derived.Test.YtcihcbfcgjepfaaGreatDoorBfPrA
import Derived.Test.YtcihcbfcgjepfaaGreatDoorShEleven
/- Desks: what stays of a desk when parts of it are changed. No condition but those stated. -/
set_option maxRecDepth 100000
set_option linter.unusedVariables false
set_option linter.unusedSimpArgs false
namespace Go.Proofs.YtcihcbfcgjepfaaGreatDoor
open Go.Sh Go.RowKit Tryz
variable {w w' : World} {d d' : zQq} {val : Nat -> List Val} {mu : Int}
def usH (d : zQq) : List zQu := uH d 0 ++ (uH d 1 ++ (uH d 2 ++ uH d 3))
theorem yYa (d : zQq) : zXs d = d.rh ++ usH d := rfl
def zXw (d : zQq) (u : Nat) : List zQu := d.rh ++ ((if u = 0 then [] else uH d 0) ++ ((if u = 1 then [] else uH d 1) ++ ((if u = 2 then [] else uH d 2) ++ (if u = 3 then [] else uH d 3))))
theorem zW9 (d : zQq) {u : Nat} (hu : u < 4) : (zXs d).Perm (uH d u ++ zXw d u) := by
 rcases (by omega : u = 0 ∨ u = 1 ∨ u = 2 ∨ u = 3) with rfl | rfl | rfl | rfl
 ·simp only [zXw, zXs]
  exact List.perm_append_comm_assoc ..
 ·simp only [zXw, zXs]
  refine List.Perm.trans (List.Perm.append_left _ ?_) (List.perm_append_comm_assoc ..)
  exact List.perm_append_comm_assoc ..
 ·simp only [zXw, zXs]
  refine List.Perm.trans (List.Perm.append_left _ (List.Perm.trans (List.Perm.append_left _ ?_) (List.perm_append_comm_assoc ..))) (List.perm_append_comm_assoc ..)
  exact List.perm_append_comm_assoc ..
 ·simp only [zXw, zXs]
  refine List.Perm.trans (List.Perm.append_left _ (List.Perm.trans (List.Perm.append_left _ (List.Perm.trans (List.Perm.append_left _ ?_) (List.perm_append_comm_assoc ..))) (List.perm_append_comm_assoc ..))) (List.perm_append_comm_assoc ..)
  simp only [if_true, List.append_nil, show (3 : Nat) ≠ 2 by omega, if_false]
  exact List.perm_append_comm
theorem zZx {a b : List zQu} (h : a.Perm b) : (vB a).Perm (vB b) := List.Perm.flatMap_right _ h
theorem yWe {u : Nat} (hu : u < 4) : (vB (zXs d)).Nodup ↔ (vB (uH d u ++ zXw d u)).Nodup := (zZx (zW9 d hu)).nodup_iff
theorem mem_u {u : Nat} (hu : u < 4) {x : zQu} : x ∈ zXs d ↔ x ∈ uH d u ∨ x ∈ zXw d u := by rw [(zW9 d hu).mem_iff, List.mem_append]
theorem yZQ : ∀ {l : List zQu} {x y : zQu} {b : Nat}, (vB l).Nodup -> x ∈ l -> y ∈ l -> b ∈ zQa x.s -> b ∈ zQa y.s -> x = y
 | [], x, y, b, _, hx, _, _, _ => by cases hx
 | z :: l, x, y, b, hn, hx, hy, hbx, hby => by
  rw [zQZ] at hn
  obtain ⟨_, n2, n3⟩ := List.nodup_append.1 hn
  rcases List.mem_cons.1 hx with ex | kx
  ·rcases List.mem_cons.1 hy with ey | ky
   ·rw [ex, ey]
   ·exact absurd rfl (n3 b (by rw [← ex]; exact hbx) b (zXe ky hby))
  ·rcases List.mem_cons.1 hy with ey | ky
   ·exact absurd rfl (n3 b (by rw [← ey]; exact hby) b (zXe kx hbx))
   ·exact yZQ n2 kx ky hbx hby
theorem zQ4.setVal (h : zQ4 w d val) {x : zQu} (hx : x ∈ zXs d) {a : Addr} (ha : x.s.a = some a) {l' : List Val} (hf : Fr (· = a.block) w w') (hrow : zQh w' 28 3 x.s (l'.flatMap zXO)) : zQ4 w' d (zZI val a.block l') := by
 have hb : a.block ∈ zQa x.s := by simp [zQa, ha]
 have hV : d.o a.block = some .V := h.oV _ (zXe hx hb)
 have ne : ∀ {b : Nat} {κ : zZW}, d.o b = some κ -> κ ≠ .V -> ¬ b = a.block := fun {b κ} hb hk e => by rw [e, hV] at hb; exact hk (Option.some.inj hb).symm
 refine ⟨h.fl.fr hf fun b hb => ne (h.oF b hb) (by simp), h.rw_.fr hf fun b hb => ne (h.oR b hb) (by simp), fun u hu => (h.aw u hu).fr hf fun b hb => ne (h.oA u hu b hb) (by simp),
  fun e u hu => (h.mp e u hu).fr hf (ne (h.oC e u hu) (by simp)), fun e u hu => (h.ml e u hu).fr hf fun b hb => ne (h.oK e u hu b hb) (by simp), ?_, fun y hy => ?_, h.low, h.nd, h.oS, h.oL, h.oC, h.oK, h.oF, h.oR, h.oA, h.oV, fun b hb => Nat.lt_of_lt_of_le (h.lt b hb) hf.size⟩
 ·obtain ⟨l, h1, h2⟩ := h.lm
  exact ⟨l, h1.fr hf (ne h.oL (by simp)), h2⟩
 ·by_cases hyb : a.block ∈ zQa y.s
  ·obtain rfl := yZQ h.nd hx hy hb hyb
   rw [zJV ha rfl]; exact hrow
  ·rw [zZS hyb]
   exact (h.vr y hy).fr hf fun b hb' e => hyb (by rw [← show b = a.block from e]; exact hb')
def zQq.ad (d : zQq) (b : Nat) : zQq := { d with o := fun c => if c = b then some .V else d.o c }
theorem zQ4.ad (h : zQ4 w d val) {b : Nat} (ho : d.o b = none) (hb : b < w.heap.size) (x : List Val) : zQ4 w (d.ad b) (zZI val b x) := by
 have up : ∀ {c : Nat} {κ : zZW}, d.o c = some κ -> (d.ad b).o c = some κ := fun {c κ} hc => by
  show (if c = b then _ else _) = _
  rw [if_neg fun e => by rw [e, ho] at hc; cases hc]; exact hc
 refine ⟨h.fl, h.rw_, h.aw, h.mp, h.ml, h.lm, fun y hy => ?_, h.low, h.nd, up h.oS, up h.oL, fun e u hu => up (h.oC e u hu), fun e u hu c hc => up (h.oK e u hu c hc), fun c hc => up (h.oF c hc), fun c hc => up (h.oR c hc), fun u hu c hc => up (h.oA u hu c hc), fun c hc => up (h.oV c hc), fun c hc => ?_⟩
 ·have hn : b ∉ zQa y.s := fun e => by have := h.oV b (zXe hy e); rw [ho] at this; cases this
  rw [zZS hn]; exact h.vr y hy
 ·by_cases e : c = b
  ·rw [e]; exact hb
  ·have : (if c = b then some zZW.V else d.o c) ≠ none := hc
   rw [if_neg e] at this; exact h.lt c this
theorem zQ4.free (h : zQ4 w d val) {b : Nat} (ho : d.o b = some .V) (hn : b ∉ vB (zXs d)) (hf : Fr (· = b) w w') (x : List Val) : zQ4 w' d (zZI val b x) := by
 have ne : ∀ {c : Nat} {κ : zZW}, d.o c = some κ -> κ ≠ .V -> ¬ c = b := fun {c κ} hc hk e => by rw [e, ho] at hc; exact hk (Option.some.inj hc).symm
 refine ⟨h.fl.fr hf fun b hb => ne (h.oF b hb) (by simp), h.rw_.fr hf fun b hb => ne (h.oR b hb) (by simp), fun u hu => (h.aw u hu).fr hf fun b hb => ne (h.oA u hu b hb) (by simp),
  fun e u hu => (h.mp e u hu).fr hf (ne (h.oC e u hu) (by simp)), fun e u hu => (h.ml e u hu).fr hf fun b hb => ne (h.oK e u hu b hb) (by simp), ?_, fun y hy => ?_, h.low, h.nd, h.oS, h.oL, h.oC, h.oK, h.oF, h.oR, h.oA, h.oV, fun b hb => Nat.lt_of_lt_of_le (h.lt b hb) hf.size⟩
 ·obtain ⟨l, h1, h2⟩ := h.lm
  exact ⟨l, h1.fr hf (ne h.oL (by simp)), h2⟩
 ·have hyb : b ∉ zQa y.s := fun e => hn (zXe hy e)
  rw [zZS hyb]
  exact (h.vr y hy).fr hf fun c hc e => hyb (by rw [← show c = b from e]; exact hc)
theorem yKN {b : Nat} {x : List Val} (hl : Low d) (hn : b ∉ vB (zXs d)) : zQc d (zZI val b x) = zQc d val := by
 have hr : b ∉ vB d.rh := fun e => hn (by rw [yYa, zQo]; exact List.mem_append_left _ e)
 have hu : ∀ v, b ∉ vB (uH d v) := fun v e => by
  by_cases hv : v < 4
  ·exact hn ((zZx (zW9 d hv)).mem_iff.2 (by rw [zQo]; exact List.mem_append_left _ e))
  ·rw [yJf hl (by omega)] at e; simp [vB] at e
 simp only [zQc, zJ2 hr, Dsk.mk.injEq, true_and, and_true]
 funext v
 exact zJP (hu v)
theorem yWO {b : Nat} {x : List Val} (h : zQ4 w d val) (ho : d.o b = none) : zQc (d.ad b) (zZI val b x) = zQc d val :=
 yKN h.low fun e => by have := h.oV b e; rw [ho] at this; cases this
theorem zQ4.lks (h : zQ4 w d val) {lk' : Int -> Option Int} {l : List (Int × Int)} (hf : Fr (· = d.L) w w') (hl : zQ3 w' zXp zXp d.L l) (he : ∀ k, AL.get l k = (lk' k).map fun v => if d.sd then v + 1 else v) : zQ4 w' { d with lk := lk' } val := by
 have ne : ∀ {c : Nat} {κ : zZW}, d.o c = some κ -> κ ≠ .L -> ¬ c = d.L := fun {c κ} hc hk e => by rw [e, h.oL] at hc; exact hk (Option.some.inj hc).symm
 exact ⟨h.fl.fr hf fun b hb => ne (h.oF b hb) (by simp), h.rw_.fr hf fun b hb => ne (h.oR b hb) (by simp), fun u hu => (h.aw u hu).fr hf fun b hb => ne (h.oA u hu b hb) (by simp),
  fun e u hu => (h.mp e u hu).fr hf (ne (h.oC e u hu) (by simp)), fun e u hu => (h.ml e u hu).fr hf fun b hb => ne (h.oK e u hu b hb) (by simp), ⟨l, hl, he⟩, fun y hy => (h.vr y hy).fr hf fun b hb => ne (h.oV b (zXe hy hb)) (by simp), h.low, h.nd, h.oS, h.oL, h.oC, h.oK, h.oF, h.oR, h.oA, h.oV, fun b hb => Nat.lt_of_lt_of_le (h.lt b hb) hf.size⟩
def zQq.gen (d : zQq) (u : Nat) (o' : Nat -> Option zZW) (rs' : SV) (rh' : List zQu) (as' : SV) (ah' : List zQu) (cs' : SV) (ch' : List Chg) (C' : Nat) : zQq :=
 { d with o := o', rs := rs', rh := rh', asv := fun v => if v = u then as' else d.asv v, ah := fun v => if v = u then ah' else d.ah v, cs := fun v => if v = u then cs' else d.cs v, ch := fun v => if v = u then ch' else d.ch v, C := fun v => if v = u then C' else d.C v }
section
variable {u : Nat} {o' : Nat -> Option zZW} {rs' as' cs' : SV} {rh' ah' : List zQu} {ch' : List Chg} {C' : Nat}
theorem gen_uH : uH (d.gen u o' rs' rh' as' ah' cs' ch' C') u = chH ch' ++ ah' := by simp [uH, zQq.gen]
theorem yZw {v : Nat} (h : v ≠ u) : uH (d.gen u o' rs' rh' as' ah' cs' ch' C') v = uH d v := by simp [uH, zQq.gen, h]
theorem yY0 : zXw (d.gen u o' rs' rh' as' ah' cs' ch' C') u = rh' ++ (zXw d u).drop d.rh.length := by
 have e : (zXw d u).drop d.rh.length = ((if u = 0 then [] else uH d 0) ++ ((if u = 1 then [] else uH d 1) ++ ((if u = 2 then [] else uH d 2) ++ (if u = 3 then [] else uH d 3)))) := by simp [zXw]
 have k : ∀ v : Nat, (if u = v then [] else uH (d.gen u o' rs' rh' as' ah' cs' ch' C') v) = (if u = v then [] else uH d v) := fun v => by
  by_cases h : u = v
  ·rw [if_pos h, if_pos h]
  ·rw [if_neg h, if_neg h, yZw (Ne.symm h)]
 rw [e]
 simp only [zXw, k]
 rfl
def zYd (d : zQq) (u : Nat) (rh' ah' : List zQu) (ch' : List Chg) : List zQu := (chH ch' ++ ah') ++ (rh' ++ (zXw d u).drop d.rh.length)
theorem yKt (hu : u < 4) : (zXs (d.gen u o' rs' rh' as' ah' cs' ch' C')).Perm (zYd d u rh' ah' ch') := by
 have := zW9 (d.gen u o' rs' rh' as' ah' cs' ch' C') hu
 rwa [gen_uH, yY0] at this
theorem yYy {x : zQu} (hu : u < 4) (h : x ∈ (zXw d u).drop d.rh.length) : x ∈ zXs d := (mem_u hu).2 (.inr (List.mem_of_mem_drop h))
theorem zQ4.genL (h : zQ4 w d val) (hu : u < 4) {B : Nat -> Prop} (hf : Fr B w w')
  {lk' : Int -> Option Int} (hK : ∃ l, zQ3 w' zXp zXp d.L l /\ ∀ k, AL.get l k = (lk' k).map fun v => if d.sd then v + 1 else v) (oL : o' d.L = some .L)
  (keep : ∀ b κ, d.o b = some κ -> κ ≠ .L -> κ ≠ .S -> κ ≠ .R -> κ ≠ .A u -> κ ≠ .C u -> ¬ B b /\ o' b = some κ) (oS : o' d.S = some .S)
  (hR : zQh w' 77 2 rs' (rh'.flatMap yXR)) (oR : ∀ b ∈ zQa rs', o' b = some .R) (hA : zQh w' 77 2 as' (ah'.flatMap yXR)) (oA : ∀ b ∈ zQa as', o' b = some (.A u))
  (hM : d.sd = false -> zQ3 w' zXp chV C' ch' /\ o' C' = some (.C u)) (hL : d.sd = true -> zQh w' 136 5 cs' (ch'.flatMap chC) /\ ∀ b ∈ zQa cs', o' b = some (.C u))
  (new : ∀ x ∈ chH ch' ++ ah' ++ rh', (∃ y ∈ zXs d, x.s = y.s) ∨ (zQh w' 28 3 x.s ((hv val x).flatMap zXO) /\ ∀ b ∈ zQa x.s, o' b = some .V)) (nd : (vB (zYd d u rh' ah' ch')).Nodup) (lt : ∀ b, o' b ≠ none -> b < w'.heap.size) :
  zQ4 w' { d.gen u o' rs' rh' as' ah' cs' ch' C' with lk := lk' } val := by
 have gp : (zXs (d.gen u o' rs' rh' as' ah' cs' ch' C')).Perm (zYd d u rh' ah' ch') := yKt hu
 have kp : ∀ {b : Nat} {κ : zZW}, d.o b = some κ -> κ ≠ .S -> κ ≠ .R -> κ ≠ .A u -> κ ≠ .C u -> κ ≠ .L -> ¬ B b := fun {b κ} a1 a2 a3 a4 a5 a6 => (keep b κ a1 a6 a2 a3 a4 a5).1
 have ko : ∀ {b : Nat} {κ : zZW}, d.o b = some κ -> κ ≠ .S -> κ ≠ .R -> κ ≠ .A u -> κ ≠ .C u -> κ ≠ .L -> o' b = some κ := fun {b κ} a1 a2 a3 a4 a5 a6 => (keep b κ a1 a6 a2 a3 a4 a5).2
 have cls : ∀ x ∈ zYd d u rh' ah' ch', zQh w' 28 3 x.s ((hv val x).flatMap zXO) /\ ∀ b ∈ zQa x.s, o' b = some .V := fun x hx => by
  have old : ∀ y ∈ zXs d, zQh w' 28 3 y.s ((hv val y).flatMap zXO) /\ ∀ b ∈ zQa y.s, o' b = some .V := fun y hy =>
   ⟨(h.vr y hy).fr hf fun b hb => kp (h.oV b (zXe hy hb)) (by simp) (by simp) (by simp) (by simp) (by simp), fun b hb => ko (h.oV b (zXe hy hb)) (by simp) (by simp) (by simp) (by simp) (by simp)⟩
  have hx' : x ∈ chH ch' ++ ah' ++ rh' ∨ x ∈ (zXw d u).drop d.rh.length := by
   simp only [zYd, List.mem_append] at hx ⊢
   rcases hx with (hx | hx) | hx | hx
   ·exact .inl (.inl (.inl hx))
   ·exact .inl (.inl (.inr hx))
   ·exact .inl (.inr hx)
   ·exact .inr hx
  rcases hx' with hx | hx
  ·rcases new x hx with ⟨y, hy, hs⟩ | hx
   ·have e : hv val x = hv val y := by rw [hv, hv, hs]
    rw [e, hs]
    exact old y hy
   ·exact hx
  ·exact old x (yYy hu hx)
 refine ⟨h.fl.fr hf fun b hb => kp (h.oF b hb) (by simp) (by simp) (by simp) (by simp) (by simp), hR, fun v hv => ?_, fun e v hv => ?_, fun e v hv => ?_, ?_, fun x hx => (cls x (gp.mem_iff.1 hx)).1, fun v hv => ?_, ((zZx gp).nodup_iff).2 nd, oS, oL, fun e v hv => ?_, fun e v hv b hb => ?_, fun b hb => ko (h.oF b hb) (by simp) (by simp) (by simp) (by simp) (by simp), oR, fun v hv b hb => ?_, fun b hb => ?_, lt⟩
 ·by_cases e : v = u
  ·subst e; simpa [zQq.gen] using hA
  ·simp only [zQq.gen, if_neg e]
   exact (h.aw v hv).fr hf fun b hb => kp (h.oA v hv b hb) (by simp) (by simp) (by simp [e]) (by simp) (by simp)
 ·by_cases e' : v = u
  ·subst e'; simpa [zQq.gen] using (hM e).1
  ·simp only [zQq.gen, if_neg e']
   exact (h.mp e v hv).fr hf (kp (h.oC e v hv) (by simp) (by simp) (by simp) (by simp [e']) (by simp))
 ·by_cases e' : v = u
  ·subst e'; simpa [zQq.gen] using (hL e).1
  ·simp only [zQq.gen, if_neg e']
   exact (h.ml e v hv).fr hf fun b hb => kp (h.oK e v hv b hb) (by simp) (by simp) (by simp) (by simp [e']) (by simp)
 ·exact hK
 ·have e : v ≠ u := by omega
  have := h.low v hv
  simpa [zQq.gen, e] using this
 ·by_cases e' : v = u
  ·subst e'; simpa [zQq.gen] using (hM e).2
  ·simp only [zQq.gen, if_neg e']
   exact ko (h.oC e v hv) (by simp) (by simp) (by simp) (by simp [e']) (by simp)
 ·by_cases e' : v = u
  ·subst e'
   exact (hL e).2 b (by simpa [zQq.gen] using hb)
  ·simp only [zQq.gen, if_neg e'] at hb
   exact ko (h.oK e v hv b hb) (by simp) (by simp) (by simp) (by simp [e']) (by simp)
 ·by_cases e : v = u
  ·subst e
   exact oA b (by simpa [zQq.gen] using hb)
  ·simp only [zQq.gen, if_neg e] at hb
   exact ko (h.oA v hv b hb) (by simp) (by simp) (by simp [e]) (by simp) (by simp)
 ·obtain ⟨x, hx, hb⟩ := List.mem_flatMap.1 hb
  exact (cls x (gp.mem_iff.1 hx)).2 b hb
theorem zQ4.gen (h : zQ4 w d val) (hu : u < 4) {B : Nat -> Prop} (hf : Fr B w w')
  (keep : ∀ b κ, d.o b = some κ -> κ ≠ .S -> κ ≠ .R -> κ ≠ .A u -> κ ≠ .C u -> ¬ B b /\ o' b = some κ) (oS : o' d.S = some .S)
  (hR : zQh w' 77 2 rs' (rh'.flatMap yXR)) (oR : ∀ b ∈ zQa rs', o' b = some .R) (hA : zQh w' 77 2 as' (ah'.flatMap yXR)) (oA : ∀ b ∈ zQa as', o' b = some (.A u))
  (hM : d.sd = false -> zQ3 w' zXp chV C' ch' /\ o' C' = some (.C u)) (hL : d.sd = true -> zQh w' 136 5 cs' (ch'.flatMap chC) /\ ∀ b ∈ zQa cs', o' b = some (.C u))
  (new : ∀ x ∈ chH ch' ++ ah' ++ rh', (∃ y ∈ zXs d, x.s = y.s) ∨ (zQh w' 28 3 x.s ((hv val x).flatMap zXO) /\ ∀ b ∈ zQa x.s, o' b = some .V)) (nd : (vB (zYd d u rh' ah' ch')).Nodup) (lt : ∀ b, o' b ≠ none -> b < w'.heap.size) :
  zQ4 w' (d.gen u o' rs' rh' as' ah' cs' ch' C') val := by
 obtain ⟨l, h1, h2⟩ := h.lm
 have kL := keep d.L .L h.oL (by simp) (by simp) (by simp) (by simp)
 exact h.genL hu hf (lk' := d.lk) ⟨l, h1.fr hf kL.1, h2⟩ kL.2 (fun b κ a1 _ a2 a3 a4 a5 => keep b κ a1 a2 a3 a4 a5) oS hR oR hA oA hM hL new nd lt
theorem zK9 : zQc (d.gen u o' rs' rh' as' ah' cs' ch' C') val = { (zQc d val) with recs := rh'.map (toR val) }.setU u { (zQc d val).us u with ch := ch'.map (toC val), ap := ah'.map (toR val) } := by
 simp only [zQc, Dsk.setU, Dsk.mk.injEq]
 refine ⟨rfl, rfl, rfl, ?_, rfl⟩
 funext v
 by_cases e : v = u
 ·subst e; simp [zVk, zQq.gen]
 ·simp [zVk, zQq.gen, e]
end
end Go.Proofs.YtcihcbfcgjepfaaGreatDoor
/- Desks: the lock of a record; what Set and Mark do with the record at which a user is. No condition but those stated. -/
namespace Go.Proofs.YtcihcbfcgjepfaaGreatDoor
open Go.Sh Go.RowKit Tryz
variable {w w' : World} {d d' : zQq} {val : Nat -> List Val} {mu : Int}
theorem zQb.lks (h : zQb w d mu val) {lk' : Int -> Option Int} {l : List (Int × Int)} (hf : Fr (· = d.L) w w') (hl : zQ3 w' zXp zXp d.L l) (he : ∀ k, AL.get l k = lk' k) : zQb w' { d with lk := lk' } mu val :=
 ⟨hf.blk h.st fun e => (by
  have := h.bd.oS
  rw [show d.S = d.L from e, h.bd.oL] at this
  cases this), h.bd.lks hf hl fun k => (by rw [he, h.sd]; cases lk' k <;> rfl), h.sd⟩
theorem yQq (lk' : Int -> Option Int) : zQc { d with lk := lk' } val = { zQc d val with lk := lk' } := rfl
theorem lock_c (h : zQb w d 1 val) {u : Nat} (hu : u < 4) :
  Calls prog 113 #[d.ptr, .int .i64 (u : Int), .pointer (some (uA d u)), .int .i64 (d.at_ u)] w fun e w' => e = .returned (.int .i64 (zQR u (zQc d val))) /\
   ∃ lk', zQb w' { d with lk := lk' } 1 val /\ Fr (· = d.L) w w' /\ w'.heap.size = w.heap.size /\ { zQc d val with lk := lk' } = if zQR u (zQc d val) = 0 then zX4 u (zQc d val) else zQc d val := by
 have eM : ((zQc d val).us u).mode = d.mode u := rfl
 have eA : ((zQc d val).us u).at_ = d.at_ u := rfl
 have eK : (zQc d val).lk = d.lk := rfl
 have stay : ∀ n : Int, zQR u (zQc d val) = n -> (n = 0 -> zX4 u (zQc d val) = zQc d val) -> Ending.returned (.int .i64 n) = .returned (.int .i64 (zQR u (zQc d val))) /\
   ∃ lk', zQb w { d with lk := lk' } 1 val /\ Fr (· = d.L) w w /\ w.heap.size = w.heap.size /\ { zQc d val with lk := lk' } = if zQR u (zQc d val) = 0 then zX4 u (zQc d val) else zQc d val := fun n hn h0 => by
  refine ⟨by rw [hn], d.lk, h, Fr.refl _ _, rfl, ?_⟩
  rw [hn]
  split
  ·rw [h0 ‹_›]; rfl
  ·rfl
 refine yXb _ _ _ _ w _ ⟨_, h.uMode hu, Br.of (fun c => ?_) (fun c => ⟨_, h.uMode hu, Br.of (fun c1 => ?_) (fun c1 => Br.of (fun c2 => ?_) (fun c2 => ?_))⟩)⟩
 ·have c := zQA c
  exact stay 0 (by simp only [zQR, eM, eA]; rw [if_pos (.inl c)]) fun _ => by simp only [zX4, eM, eA]; rw [if_pos (.inl c)]
 ·have c1 := zQA c1
  exact stay 0 (by simp only [zQR, eM, eA]; rw [if_pos (.inr (.inl c1))]) fun _ => by simp only [zX4, eM, eA]; rw [if_pos (.inr (.inl c1))]
 ·have c2 := zQn c2
  exact stay 0 (by simp only [zQR, eM, eA]; rw [if_pos (.inr (.inr c2))]) fun _ => by simp only [zX4, eM, eA]; rw [if_pos (.inr (.inr (.inl c2)))]
 have c := zQj c
 have c1 := zQj c1
 have c2 := zQg c2
 have eC : zQR u (zQc d val) = match d.lk (d.at_ u) with | some v => if v = (u : Int) then 0 else 12 | none => 0 := by
  simp only [zQR, eM, eA, eK]; rw [if_neg (by omega)]; rfl
 obtain ⟨l, hl, hk⟩ := h.lm
 refine ⟨some d.L, h.locks, _, _, w, yJt hl _, ?_⟩
 have take : zQR u (zQc d val) = 0 -> ∃ n45 : Int, w.cell? (uA d u) = some (.int .i64 n45) /\ Br (n45 != 0) (zQp (some ⟨d.S, 0, none⟩) fun a3 => ∃ m50 : Option Nat, w.cell? (a3.add 21) = some (.map m50) /\ doE prog (Instr.mapUpdate 80 (.map m50) (.int .i64 (d.at_ u)) (.int .i64 (u : Int))) w fun w4 => zQd prog [] w4 fun w5 =>
   Ending.returned (.int .i64 0) = .returned (.int .i64 (zQR u (zQc d val))) /\ ∃ lk', zQb w5 { d with lk := lk' } 1 val /\ Fr (· = d.L) w w5 /\ w5.heap.size = w.heap.size /\ { zQc d val with lk := lk' } = if zQR u (zQc d val) = 0 then zX4 u (zQc d val) else zQc d val)
   (zQd prog [] w fun w6 => Ending.returned (.int .i64 0) = .returned (.int .i64 (zQR u (zQc d val))) /\ ∃ lk', zQb w6 { d with lk := lk' } 1 val /\ Fr (· = d.L) w w6 /\ w6.heap.size = w.heap.size /\ { zQc d val with lk := lk' } = if zQR u (zQc d val) = 0 then zX4 u (zQc d val) else zQc d val) := fun h0 => by
  refine ⟨_, h.uMode hu, Br.of (fun c3 => ?_) (fun c3 => ?_)⟩
  ·have c3 := zQ5 c3
   obtain ⟨w4, hrun, hm4, hf4, hs4⟩ := hl.upd (P := prog) yQY bu80 (d.at_ u) (u : Int)
   refine ⟨some d.L, h.locks, w4, hrun, by rw [h0], fun k => if k = d.at_ u then some (u : Int) else d.lk k, h.lks hf4 hm4 fun k => ?_, hf4, hs4, ?_⟩
   ·rw [AL.get_put]
    by_cases e : d.at_ u = k
    ·rw [if_pos e, if_pos e.symm]
    ·rw [if_neg e, if_neg (Ne.symm e), hk]
   ·rw [if_pos h0]
    simp only [zX4, eM, eA, eK]; rw [if_neg (by omega)]
  ·have c3 := zQv c3
   exact stay 0 h0 fun _ => by simp only [zX4, eM, eA]; rw [if_pos (.inr (.inr (.inr c3)))]
 refine Br.of (fun c3 => ?_) (fun c3 => ?_)
 ·obtain ⟨v, hv⟩ := Option.isSome_iff_exists.1 c3
  have hv' := hv
  rw [hk] at hv'
  rw [hv'] at eC
  rw [hv]
  refine Br.of (fun c4 => ?_) (fun c4 => ?_)
  ·have c4 : v ≠ (u : Int) := zQ5 c4
   exact stay 12 (by rw [eC]; simp [c4]) fun e => by cases e
  ·have c4 : v = (u : Int) := zQv c4
   exact take (by rw [eC]; simp [c4])
 ·have hv : AL.get l (d.at_ u) = none := by simpa using c3
  rw [hk] at hv
  rw [hv] at eC
  exact take eC
inductive Do1
 | set (i : Nat) (v : Val)
 | mark (g : Bool)
def Do1.f : Do1 -> Rec -> Rec
 | .set i v => setVal i v
 | .mark g => zZf g
def zZz (A : Do1) (f : Nat) (cap : Array Value) (w : World) (D : Nat -> Prop) : Prop := match A with
 | .set i v => f = 54 /\ ∃ r s : Nat, cap = #[.pointer (some ⟨r, 0, none⟩), .pointer (some ⟨s, 0, none⟩)] /\ w.heap[r]? = some (.cells #[.int .i64 v.kind, .int .i64 v.n, .string v.s] 28) /\ w.heap[s]? = some (.cells #[.int .i64 (i : Int)] 3) /\ ¬ D r /\ ¬ D s
 | .mark g => f = 57 /\ ∃ r : Nat, cap = #[.pointer (some ⟨r, 0, none⟩)] /\ w.heap[r]? = some (.cells #[.bool g] 4) /\ ¬ D r
theorem zZz.fr {A : Do1} {f : Nat} {cap : Array Value} {D B : Nat -> Prop} (h : zZz A f cap w D) (hf : Fr B w w') (hb : ∀ b, b < w.heap.size -> B b -> D b) : zZz A f cap w' D := by
 cases A with
 | set i v =>
  obtain ⟨h1, r, s, h2, h3, h4, h5, h6⟩ := h
  exact ⟨h1, r, s, h2, hf.blk h3 fun e => h5 (hb _ (zQH h3) e), hf.blk h4 fun e => h6 (hb _ (zQH h4) e), h5, h6⟩
 | mark g =>
  obtain ⟨h1, r, h2, h3, h5⟩ := h
  exact ⟨h1, r, h2, hf.blk h3 fun e => h5 (hb _ (zQH h3) e), h5⟩
theorem zZz.body {A : Do1} {f : Nat} {cap : Array Value} {D : Nat -> Prop} (h : zZz A f cap w D) : zXv prog f = true := by
 cases A with
 | set i v => obtain ⟨rfl, _⟩ := h; kernel_rfl
 | mark g => obtain ⟨rfl, _⟩ := h; kernel_rfl
theorem yJk {a : Addr} {s : SV} {l : List Val} {r7 r12 i : Nat} {v : Val} (hs : w.cell? (a.add 1) = some (.slice s.a s.len s.cap)) (hrow : zQh w 28 3 s (l.flatMap zXO)) (hi : i < l.length)
  (h7 : w.heap[r7]? = some (.cells #[.int .i64 v.kind, .int .i64 v.n, .string v.s] 28)) (h12 : w.heap[r12]? = some (.cells #[.int .i64 (i : Int)] 3)) :
  Calls prog 54 #[.pointer (some a), .pointer (some ⟨r7, 0, none⟩), .pointer (some ⟨r12, 0, none⟩)] w fun e w' => e = .returned (.tuple #[]) /\ zQh w' 28 3 s ((l.set i v).flatMap zXO) /\ Fr (· ∈ zQa s) w w' /\ w'.heap.size = w.heap.size := by
 refine yZI _ _ _ w _ (zQl fun w1 hp1 hh1 => ?_)
 have hz : w1.heap.size = w.heap.size := by rw [hh1]
 have hrow1 := hrow.pu hp1
 obtain ⟨a5, ha5, hst⟩ := hrow1.stElem (P := prog) (t := 28) zQL (by decide) hi v yKr.symm rfl (K := fun w' => Ending.returned (.tuple #[]) = .returned (.tuple #[]) /\ zQh w' 28 3 s ((l.set i v).flatMap zXO) /\ Fr (· ∈ zQa s) w w' /\ w'.heap.size = w.heap.size) fun w' g1 g2 g3 => ⟨rfl, g1, (Fr.pu hp1 : Fr (· ∈ zQa s) w w1).trans g2 fun i hi _ => hi, by rw [g3, hz]⟩
 have hl := hrow.len zQL (by decide)
 refine ⟨s, hp1.cell hs, (i : Int), cl0 (hp1.blk h12), _, cl (hp1.blk h7) 0, _, cl (hp1.blk h7) 1, _, cl (hp1.blk h7) 2, a5, ha5, by omega, by omega, ?_⟩
 rw [zZa]
 exact hst
theorem zY6 {a : Addr} {r : Nat} {g : Bool} {R : Rt} (hr : w.heap[r]? = some (.cells #[.bool g] 4)) (h : st1 a (.bool g) w fun w' => R (.returned (.tuple #[])) w') : Calls prog 57 #[.pointer (some a), .pointer (some ⟨r, 0, none⟩)] w R :=
 yZO _ _ w _ ⟨g, cl0 hr, h⟩
theorem zXC {α : Type} {f g : α -> α} : ∀ {l : List α} {i : Nat} {x : α}, l[i]? = some x -> f x = g x -> l.modify i f = l.modify i g
 | [], i, x, h, _ => by simp at h
 | y :: l, 0, x, h, e => by simp at h; subst h; simp [e]
 | y :: l, i + 1, x, h, e => by simp only [List.modify_succ_cons]; rw [zXC (by simpa using h) e]
theorem zXM {α : Type} {f : α -> α} : ∀ {l : List α} {i : Nat} {x : α}, l[i]? = some x -> l.set i (f x) = l.modify i f
 | [], i, x, h => by simp at h
 | y :: l, 0, x, h => by simp at h; subst h; rfl
 | y :: l, i + 1, x, h => by simp only [List.modify_succ_cons, List.set_cons_succ]; rw [zXM (by simpa using h)]
theorem zWq : ∀ {l : List zQu} {i : Nat} {x y : zQu}, l[i]? = some x -> x.s = y.s -> vB (l.set i y) = vB l
 | [], i, x, y, h, _ => by simp at h
 | z :: l, 0, x, y, h, e => by simp at h; subst h; simp [vB, e]
 | z :: l, i + 1, x, y, h, e => by
  rw [List.set_cons_succ, zQZ, zQZ, zWq (by simpa using h) e]
theorem zKQ {u : Nat} {o' : Nat -> Option zZW} {rh' ah' : List zQu} {cs' : SV} {ch' : List Chg} : zXh mu (d.gen u o' d.rs rh' (d.asv u) ah' cs' ch' (d.C u)) = zXh mu d := by
 have e1 : (fun v => if v = u then d.asv u else d.asv v) = d.asv := by funext v; by_cases e : v = u <;> simp [e]
 have e2 : (fun v => if v = u then d.C u else d.C v) = d.C := by funext v; by_cases e : v = u <;> simp [e]
 have e3 : (d.gen u o' d.rs rh' (d.asv u) ah' cs' ch' (d.C u)).asv = d.asv := e1
 have e4 : (d.gen u o' d.rs rh' (d.asv u) ah' cs' ch' (d.C u)).C = d.C := e2
 simp only [zXh, e3, e4]
 rfl
theorem zQb.setVal (h : zQb w d mu val) {x : zQu} (hx : x ∈ zXs d) {a : Addr} (ha : x.s.a = some a) {l' : List Val} (hf : Fr (· ∈ zQa x.s) w w') (hrow : zQh w' 28 3 x.s (l'.flatMap zXO)) : zQb w' d mu (zZI val a.block l') := by
 have hb : a.block ∈ zQa x.s := by simp [zQa, ha]
 have hV : d.o a.block = some .V := h.bd.oV _ (zXe hx hb)
 have hf' : Fr (· = a.block) w w' := hf.mono fun i hi _ => by simpa [zQa, ha] using hi
 exact ⟨hf'.blk h.st fun e => (by rw [← show d.S = a.block from e, h.bd.oS] at hV; cases hV), h.bd.setVal hx ha hf' hrow, h.sd⟩
theorem zXV {s : SV} {l : List Val} {i : Nat} (h : zQh w 28 3 s (l.flatMap zXO)) (hi : i < l.length) : ∃ a, s.a = some a := by
 obtain ⟨v, hv⟩ := zXD hi
 obtain ⟨a, ha, _⟩ := h.elem zQL hv (o := 0) rfl
 exact ⟨a, ha⟩
abbrev Own (d : zQq) : Nat -> Prop := fun b => d.o b ≠ none
theorem do_ap (h : zQb w d 1 val) {u : Nat} (hu : u < 4) {A : Do1} {f : Nat} {cap : Array Value} (hc : zZz A f cap w (Own d)) {i : Nat} {x : zQu} (hx : (d.ah u)[i]? = some x) (hA : ∀ j v, A = .set j v -> j < (hv val x).length) {a : Addr} (ha : (d.asv u).a = some a) :
  Calls prog f (([.pointer (some (a.add (i * 2)))] : List Value) ++ cap.toList).toArray w fun e w' => e = .returned (.tuple #[]) /\ ∃ d' val', zQb w' d' 1 val' /\ Fr (Own d) w w' /\ d'.o = d.o /\ d'.S = d.S /\
   zQc d' val' = (zQc d val).setU u { (zQc d val).us u with ap := ((zQc d val).us u).ap.modify i A.f } := by
 have hm : x ∈ zXs d := zZC hu (List.mem_of_getElem? hx)
 have hap : ((zQc d val).us u).ap[i]? = some (toR val x) := by show ((d.ah u).map (toR val))[i]? = _; rw [List.getElem?_map, hx]; rfl
 cases A with
 | set j v =>
  obtain ⟨rfl, r, s, rfl, h3, h4, _, _⟩ := hc
  obtain ⟨a1, ha1, _, hcl⟩ := (h.bd.aw u hu).elem zQm hx (o := 1) (v := .slice x.s.a x.s.len x.s.cap) rfl
  rw [ha] at ha1; cases ha1
  have hj := hA j v rfl
  obtain ⟨b, hb⟩ := zXV (h.bd.vr x hm) hj
  show Calls prog 54 #[.pointer (some (a.add (i * 2))), .pointer (some ⟨r, 0, none⟩), .pointer (some ⟨s, 0, none⟩)] w _
  refine Calls.mono (yJk hcl (h.bd.vr x hm) hj h3 h4) ?_
  rintro e w1 ⟨rfl, hr1, hf1, hs1⟩
  refine ⟨rfl, d, _, h.setVal hm hb hf1 hr1, hf1.mono fun c hc _ => by rw [Own, h.bd.oV c (zXe hm hc)]; simp, rfl, rfl, ?_⟩
  rw [zW3 h.bd.nd h.bd.low hu hx hb]
  rw [zXC (f := fun r => { r with v := (hv val x).set j v }) (g := (Do1.set j v).f) hap rfl]
 | mark g =>
  obtain ⟨rfl, r, rfl, h3, _⟩ := hc
  have hi : i < (d.ah u).length := (List.getElem?_eq_some_iff.1 hx).1
  show Calls prog 57 #[.pointer (some (a.add (i * 2))), .pointer (some ⟨r, 0, none⟩)] w _
  refine zY6 h3 ?_
  obtain ⟨a1, ha1, hst⟩ := (h.bd.aw u hu).stField (i := i) (o := 0) zQm hi (by decide) { x with g := g } (.bool g) (fun y hy => by rw [hx] at hy; cases hy; rfl) (K := fun w1 => Ending.returned (.tuple #[]) = .returned (.tuple #[]) /\ ∃ d' val', zQb w1 d' 1 val' /\ Fr (Own d) w w1 /\ d'.o = d.o /\ d'.S = d.S /\
   zQc d' val' = (zQc d val).setU u { (zQc d val).us u with ap := ((zQc d val).us u).ap.modify i (Do1.mark g).f }) fun w1 hr1 hf1 hs1 => by
   have own : ∀ b ∈ zQa (d.asv u), d.o b = some (.A u) := h.bd.oA u hu
   have hbd : zQ4 w1 (d.gen u d.o d.rs d.rh (d.asv u) ((d.ah u).set i { x with g := g }) (d.cs u) (d.ch u) (d.C u)) val := by
    have ne : ∀ {b : Nat} {κ : zZW}, d.o b = some κ -> κ ≠ .A u -> ¬ b ∈ zQa (d.asv u) := fun {b κ} hb hk e => by rw [own b e] at hb; exact hk (Option.some.inj hb).symm
    refine h.bd.gen hu hf1 (fun b κ hb _ _ hk _ => ⟨ne hb hk, hb⟩) h.bd.oS (h.bd.rw_.fr hf1 fun b hb => ne (h.bd.oR b hb) (by simp)) h.bd.oR hr1 own (fun e => ⟨(h.bd.mp e u hu).fr hf1 (ne (h.bd.oC e u hu) (by simp)), h.bd.oC e u hu⟩) (fun e => ⟨(h.bd.ml e u hu).fr hf1 fun b hb => ne (h.bd.oK e u hu b hb) (by simp), h.bd.oK e u hu⟩) (fun y hy => ?_) ?_ (fun b hb => Nat.lt_of_lt_of_le (h.bd.lt b hb) hf1.size)
    ·left
     simp only [List.mem_append] at hy
     rcases hy with (hy | hy) | hy
     ·exact ⟨y, zJ5 hu (List.mem_append_left _ hy), rfl⟩
     ·rcases List.mem_or_eq_of_mem_set hy with hy | rfl
      ·exact ⟨y, zZC hu hy, rfl⟩
      ·exact ⟨x, hm, rfl⟩
     ·exact ⟨y, zXn hy, rfl⟩
    ·have hnd := (yWe hu).1 h.bd.nd
     have e : zXw d u = d.rh ++ (zXw d u).drop d.rh.length := by simp [zXw]
     rw [e] at hnd
     unfold zYd
     rw [zQo, zQo, zWq (y := { x with g := g }) hx rfl, ← zQo, ← zQo]
     exact hnd
   refine ⟨rfl, _, val, ⟨?_, hbd, h.sd⟩, hf1.mono fun c hc _ => by rw [Own, own c hc]; simp, rfl, rfl, ?_⟩
   ·rw [zKQ]
    exact hf1.blk h.st fun e => by have := own _ e; rw [show (d.gen u d.o d.rs d.rh (d.asv u) ((d.ah u).set i { x with g := g }) (d.cs u) (d.ch u) (d.C u)).S = d.S from rfl, h.bd.oS] at this; cases this
   ·rw [zK9, List.map_set]
    have e1 : toR val { x with g := g } = zZf g (toR val x) := rfl
    rw [e1, show (d.ah u).map (toR val) = ((zQc d val).us u).ap from rfl, zXM hap]
    rfl
  rw [ha] at ha1; cases ha1
  rw [yZB] at hst
  exact hst
theorem do_rec (h : zQb w d 1 val) {A : Do1} {f : Nat} {cap : Array Value} (hc : zZz A f cap w (Own d)) {i : Nat} {x : zQu} (hx : d.rh[i]? = some x) (hA : ∀ j v, A = .set j v -> j < (hv val x).length) {a : Addr} (ha : d.rs.a = some a) :
  Calls prog f (([.pointer (some (a.add (i * 2)))] : List Value) ++ cap.toList).toArray w fun e w' => e = .returned (.tuple #[]) /\ ∃ d' val', zQb w' d' 1 val' /\ Fr (Own d) w w' /\ d'.o = d.o /\ d'.S = d.S /\
   zQc d' val' = { zQc d val with recs := (zQc d val).recs.modify i A.f } := by
 have hm : x ∈ zXs d := zXn (List.mem_of_getElem? hx)
 have hu : 0 < 4 := by decide
 have hap : (zQc d val).recs[i]? = some (toR val x) := by show (d.rh.map (toR val))[i]? = _; rw [List.getElem?_map, hx]; rfl
 cases A with
 | set j v =>
  obtain ⟨rfl, r, s, rfl, h3, h4, _, _⟩ := hc
  obtain ⟨a1, ha1, _, hcl⟩ := h.bd.rw_.elem zQm hx (o := 1) (v := .slice x.s.a x.s.len x.s.cap) rfl
  rw [ha] at ha1; cases ha1
  have hj := hA j v rfl
  obtain ⟨b, hb⟩ := zXV (h.bd.vr x hm) hj
  show Calls prog 54 #[.pointer (some (a.add (i * 2))), .pointer (some ⟨r, 0, none⟩), .pointer (some ⟨s, 0, none⟩)] w _
  refine Calls.mono (yJk hcl (h.bd.vr x hm) hj h3 h4) ?_
  rintro e w1 ⟨rfl, hr1, hf1, hs1⟩
  refine ⟨rfl, d, _, h.setVal hm hb hf1 hr1, hf1.mono fun c hc _ => by rw [Own, h.bd.oV c (zXe hm hc)]; simp, rfl, rfl, ?_⟩
  rw [zJl h.bd.nd h.bd.low hx hb]
  rw [zXC (f := fun r => { r with v := (hv val x).set j v }) (g := (Do1.set j v).f) hap rfl]
 | mark g =>
  obtain ⟨rfl, r, rfl, h3, _⟩ := hc
  have hi : i < d.rh.length := (List.getElem?_eq_some_iff.1 hx).1
  show Calls prog 57 #[.pointer (some (a.add (i * 2))), .pointer (some ⟨r, 0, none⟩)] w _
  refine zY6 h3 ?_
  obtain ⟨a1, ha1, hst⟩ := h.bd.rw_.stField (i := i) (o := 0) zQm hi (by decide) { x with g := g } (.bool g) (fun y hy => by rw [hx] at hy; cases hy; rfl) (K := fun w1 => Ending.returned (.tuple #[]) = .returned (.tuple #[]) /\ ∃ d' val', zQb w1 d' 1 val' /\ Fr (Own d) w w1 /\ d'.o = d.o /\ d'.S = d.S /\
   zQc d' val' = { zQc d val with recs := (zQc d val).recs.modify i (Do1.mark g).f }) fun w1 hr1 hf1 hs1 => by
   have own : ∀ b ∈ zQa d.rs, d.o b = some .R := h.bd.oR
   have hbd : zQ4 w1 (d.gen 0 d.o d.rs (d.rh.set i { x with g := g }) (d.asv 0) (d.ah 0) (d.cs 0) (d.ch 0) (d.C 0)) val := by
    have ne : ∀ {b : Nat} {κ : zZW}, d.o b = some κ -> κ ≠ .R -> ¬ b ∈ zQa d.rs := fun {b κ} hb hk e => by rw [own b e] at hb; exact hk (Option.some.inj hb).symm
    refine h.bd.gen hu hf1 (fun b κ hb _ hk _ _ => ⟨ne hb hk, hb⟩) h.bd.oS hr1 own ((h.bd.aw 0 hu).fr hf1 fun b hb => ne (h.bd.oA 0 hu b hb) (by simp)) (h.bd.oA 0 hu) (fun e => ⟨(h.bd.mp e 0 hu).fr hf1 (ne (h.bd.oC e 0 hu) (by simp)), h.bd.oC e 0 hu⟩) (fun e => ⟨(h.bd.ml e 0 hu).fr hf1 fun b hb => ne (h.bd.oK e 0 hu b hb) (by simp), h.bd.oK e 0 hu⟩) (fun y hy => ?_) ?_ (fun b hb => Nat.lt_of_lt_of_le (h.bd.lt b hb) hf1.size)
    ·left
     simp only [List.mem_append] at hy
     rcases hy with (hy | hy) | hy
     ·exact ⟨y, zJ5 hu (List.mem_append_left _ hy), rfl⟩
     ·exact ⟨y, zZC hu hy, rfl⟩
     ·rcases List.mem_or_eq_of_mem_set hy with hy | rfl
      ·exact ⟨y, zXn hy, rfl⟩
      ·exact ⟨x, hm, rfl⟩
    ·have hnd := (yWe hu).1 h.bd.nd
     have e : zXw d 0 = d.rh ++ (zXw d 0).drop d.rh.length := by simp [zXw]
     rw [e] at hnd
     unfold zYd
     rw [zQo, zQo (d.rh.set _ _), zWq (y := { x with g := g }) hx rfl, ← zQo, ← zQo]
     exact hnd
   refine ⟨rfl, _, val, ⟨?_, hbd, h.sd⟩, hf1.mono fun c hc _ => by rw [Own, own c hc]; simp, rfl, rfl, ?_⟩
   ·have e : zXh 1 (d.gen 0 d.o d.rs (d.rh.set i { x with g := g }) (d.asv 0) (d.ah 0) (d.cs 0) (d.ch 0) (d.C 0)) = zXh 1 d := zKQ
    rw [e]
    exact hf1.blk h.st fun e => by have := own _ e; rw [show (d.gen 0 d.o d.rs (d.rh.set i { x with g := g }) (d.asv 0) (d.ah 0) (d.cs 0) (d.ch 0) (d.C 0)).S = d.S from rfl, h.bd.oS] at this; cases this
   ·rw [zK9, List.map_set]
    have e1 : toR val { x with g := g } = zZf g (toR val x) := rfl
    rw [e1, show d.rh.map (toR val) = (zQc d val).recs from rfl, zXM hap]
    simp only [Dsk.setU, Dsk.mk.injEq, true_and, and_true]
    refine ⟨rfl, ?_⟩
    funext v
    by_cases e : v = 0
    ·rw [if_pos e, e]; rfl
    ·rw [if_neg e]
  rw [ha] at ha1; cases ha1
  rw [yZB] at hst
  exact hst
end Go.Proofs.YtcihcbfcgjepfaaGreatDoor
/- Desks: a change of a record in a buffer; alter. No condition but those stated. -/
namespace Go.Proofs.YtcihcbfcgjepfaaGreatDoor
open Go.Sh Go.RowKit Tryz
variable {w w' : World} {d d' : zQq} {val : Nat -> List Val} {mu : Int}
theorem zZw (p : Chg) (l : List Chg) : chH (p :: l) = p.2.1 :: p.2.2 :: chH l := by simp [chH]
theorem zZY : ∀ (l : List Chg) (k : Int) (c : zQu × zQu), (chH (AL.put l k c)).Perm (c.1 :: c.2 :: chH (AL.del l k))
 | [], k, c => by simp [AL.put, AL.del, chH]
 | (a, b) :: l, k, c => by
  simp only [AL.put, AL.del]
  by_cases e : a = k
  ·rw [if_pos e, if_pos e, zZw]
  ·rw [if_neg e, if_neg e, zZw, zZw]
   exact (((zZY l k c).cons b.2).cons b.1).trans (List.perm_append_comm_assoc [b.1, b.2] [c.1, c.2] _)
theorem zY0 : ∀ {l : List Chg} {k : Int} {x : zQu}, x ∈ chH (AL.del l k) -> x ∈ chH l
 | [], k, x, h => h
 | (a, b) :: l, k, x, h => by
  simp only [AL.del] at h
  by_cases e : a = k
  ·rw [if_pos e] at h
   rw [zZw]; exact List.mem_cons_of_mem _ (List.mem_cons_of_mem _ h)
  ·rw [if_neg e, zZw] at h
   rw [zZw]
   rcases List.mem_cons.1 h with rfl | h
   ·exact List.mem_cons_self ..
   ·refine List.mem_cons_of_mem _ ?_
    rcases List.mem_cons.1 h with rfl | h
    ·exact List.mem_cons_self ..
    ·exact List.mem_cons_of_mem _ (zY0 h)
theorem zK1 : ∀ {l : List Chg} {k : Int} {c : zQu × zQu}, AL.get l k = some c -> AL.put l k c = l
 | [], k, c, h => by cases h
 | (a, b) :: l, k, c, h => by
  simp only [AL.get] at h
  simp only [AL.put]
  by_cases e : a = k
  ·rw [if_pos e] at h; cases h; rw [if_pos e]
  ·rw [if_neg e] at h; rw [if_neg e, zK1 h]
theorem yJG {val val' : Nat -> List Val} {c : zQu × zQu} {c' : Rec × Rec} {k : Int} (hc : (toR val' c.1, toR val' c.2) = c') : ∀ {l : List Chg}, (∀ x ∈ chH (AL.del l k), toR val' x = toR val x) -> (AL.put l k c).map (toC val') = AL.put (l.map (toC val)) k c'
 | [], _ => by simp [AL.put, toC, hc]
 | (a, b) :: l, h => by
  simp only [AL.del] at h
  by_cases e : a = k
  ·rw [if_pos e] at h
   simp only [AL.put, List.map_cons, toC, if_pos e]
   rw [hc]
   congr 1
   refine List.map_congr_left fun p hp => ?_
   have h1 : p.2.1 ∈ chH l := List.mem_flatMap.2 ⟨p, hp, by simp⟩
   have h2 : p.2.2 ∈ chH l := List.mem_flatMap.2 ⟨p, hp, by simp⟩
   rw [toC, toC, h _ h1, h _ h2]
  ·rw [if_neg e, zZw] at h
   simp only [AL.put, List.map_cons, if_neg e]
   rw [show toC val (a, b) = (a, (toR val b.1, toR val b.2)) from rfl]
   simp only [AL.put, if_neg e]
   rw [yJG hc fun x hx => h x (List.mem_cons_of_mem _ (List.mem_cons_of_mem _ hx))]
   congr 1
   rw [toC, h b.1 (List.mem_cons_self ..), h b.2 (List.mem_cons_of_mem _ (List.mem_cons_self ..))]
def ApC (d : zQq) (u : Nat) (k : Int) (c : zQu × zQu) : Prop := (vB (c.1 :: c.2 :: (chH (AL.del (d.ch u) k) ++ d.ah u ++ zXw d u))).Nodup
theorem ApC.gen {u : Nat} (hu : u < 4) {k : Int} {c : zQu × zQu} (h : ApC d u k c) {c2 : zQu} (hs : c2.s = c.2.s) : (vB (zYd d u d.rh (d.ah u) (AL.put (d.ch u) k (c.1, c2)))).Nodup := by
 have e : zXw d u = d.rh ++ (zXw d u).drop d.rh.length := by simp [zXw]
 have e2 : zYd d u d.rh (d.ah u) (AL.put (d.ch u) k (c.1, c2)) = chH (AL.put (d.ch u) k (c.1, c2)) ++ (d.ah u ++ zXw d u) := by rw [zYd, ← e, List.append_assoc]
 rw [e2]
 refine (zZx ((zZY (d.ch u) k (c.1, c2)).append_right _)).nodup_iff.2 ?_
 unfold ApC at h
 rw [zQZ, zQZ] at h
 rw [List.cons_append, List.cons_append, zQZ, zQZ, hs]
 have e3 : chH (AL.del (d.ch u) k) ++ (d.ah u ++ zXw d u) = chH (AL.del (d.ch u) k) ++ d.ah u ++ zXw d u := (List.append_assoc ..).symm
 rw [e3]
 exact h
theorem ApC.far {u : Nat} {k : Int} {c : zQu × zQu} (h : ApC d u k c) {y : zQu} (hy : y = c.1 ∨ y ∈ chH (AL.del (d.ch u) k) ++ d.ah u ++ zXw d u) : ∀ b ∈ zQa c.2.s, b ∉ zQa y.s := fun b hb hyb => by
 unfold ApC at h
 rw [zQZ, zQZ] at h
 obtain ⟨_, h2, h3⟩ := List.nodup_append.1 h
 rcases hy with rfl | hy
 ·exact h3 b hyb b (List.mem_append_left _ hb) rfl
 ·exact (List.nodup_append.1 h2).2.2 b hb b (zXe hy hyb) rfl
theorem oth_uH {u v : Nat} (hv : v < 4) (hne : v ≠ u) {x : zQu} (hx : x ∈ uH d v) : x ∈ zXw d u := by
 unfold zXw
 simp only [List.mem_append]
 rcases (by omega : v = 0 ∨ v = 1 ∨ v = 2 ∨ v = 3) with rfl | rfl | rfl | rfl
 ·right; left; rw [if_neg (Ne.symm hne)]; exact hx
 ·right; right; left; rw [if_neg (Ne.symm hne)]; exact hx
 ·right; right; right; left; rw [if_neg (Ne.symm hne)]; exact hx
 ·right; right; right; right; rw [if_neg (Ne.symm hne)]; exact hx
theorem zYO {u : Nat} {k : Int} {c : zQu × zQu} {c2 : zQu} {val' : Nat -> List Val} {o' : Nat -> Option zZW} {cs' : SV} (hl : Low d) (h : ApC d u k c) (same : ∀ y : zQu, (∀ b ∈ zQa c.2.s, b ∉ zQa y.s) -> toR val' y = toR val y) :
  zQc (d.gen u o' d.rs d.rh (d.asv u) (d.ah u) cs' (AL.put (d.ch u) k (c.1, c2)) (d.C u)) val' = (zQc d val).setU u { (zQc d val).us u with ch := AL.put ((zQc d val).us u).ch k (toR val c.1, toR val' c2) } := by
 have far : ∀ {y : zQu}, y = c.1 ∨ y ∈ chH (AL.del (d.ch u) k) ++ d.ah u ++ zXw d u -> toR val' y = toR val y := fun {y} hy => same y (h.far hy)
 have oth : ∀ {y : zQu}, y ∈ zXw d u -> toR val' y = toR val y := fun {y} hy => far (.inr (List.mem_append_right _ hy))
 rw [zK9]
 have e1 : (AL.put (d.ch u) k (c.1, c2)).map (toC val') = AL.put ((d.ch u).map (toC val)) k (toR val c.1, toR val' c2) := yJG (by rw [far (.inl rfl)]) fun x hx => far (.inr (by simp only [List.mem_append]; exact .inl (.inl hx)))
 have e2 : (d.ah u).map (toR val') = (d.ah u).map (toR val) := List.map_congr_left fun x hx => far (.inr (by simp only [List.mem_append]; exact .inl (.inr hx)))
 have e3 : d.rh.map (toR val') = d.rh.map (toR val) := List.map_congr_left fun x hx => oth (by unfold zXw; exact List.mem_append_left _ hx)
 rw [e1, e2, e3]
 simp only [zQc, Dsk.setU, Dsk.mk.injEq, true_and, and_true]
 funext v
 by_cases e : v = u
 ·subst e; simp [zVk]
 ·simp only [if_neg e, zVk, Usr.mk.injEq, true_and]
  by_cases hv : v < 4
  ·have m : ∀ {x : zQu}, x ∈ uH d v -> toR val' x = toR val x := fun {x} hx => oth (oth_uH hv e hx)
   refine ⟨List.map_congr_left fun p hp => ?_, List.map_congr_left fun x hx => m (List.mem_append_right _ hx)⟩
   rw [toC, toC, m (List.mem_append_left _ (List.mem_flatMap.2 ⟨p, hp, by simp⟩)), m (List.mem_append_left _ (List.mem_flatMap.2 ⟨p, hp, by simp⟩))]
  ·obtain ⟨h1, h2⟩ := hl v (by omega)
   rw [h1, h2]; exact ⟨rfl, rfl⟩
theorem do_chg (h : zQb w d 1 val) {u : Nat} (hu : u < 4) {A : Do1} {f : Nat} {cap : Array Value} {k : Int} {c : zQu × zQu} {r : Nat}
  (hb : w.heap[r]? = some (.cells #[.bool c.1.g, .slice c.1.s.a c.1.s.len c.1.s.cap, .bool c.2.g, .slice c.2.s.a c.2.s.len c.2.s.cap] 133)) (hr : d.o r = none) (hc : zZz A f cap w (fun b => Own d b ∨ b = r))
  (r1 : zQh w 28 3 c.1.s ((hv val c.1).flatMap zXO)) (r2 : zQh w 28 3 c.2.s ((hv val c.2).flatMap zXO)) (ho : ∀ b, b ∈ zQa c.1.s ∨ b ∈ zQa c.2.s -> d.o b = some .V)
  (hfree : c.2 ∈ zXs d ∨ ∀ b ∈ zQa c.2.s, b ∉ vB (zXs d)) (nd : ApC d u k c) (hA : ∀ j v, A = .set j v -> j < (hv val c.2).length) :
  Calls prog f (([.pointer (some ((⟨r, 0, none⟩ : Addr).add 2))] : List Value) ++ cap.toList).toArray w fun e w' => e = .returned (.tuple #[]) /\ ∃ (c2 : zQu) (val' : Nat -> List Val), c2.s = c.2.s /\ zQb w' d 1 val' /\ Fr (fun b => Own d b ∨ b = r) w w' /\
   w'.heap[r]? = some (.cells #[.bool c.1.g, .slice c.1.s.a c.1.s.len c.1.s.cap, .bool c2.g, .slice c2.s.a c2.s.len c2.s.cap] 133) /\ zQh w' 28 3 c.1.s ((hv val' c.1).flatMap zXO) /\ zQh w' 28 3 c2.s ((hv val' c2).flatMap zXO) /\
   (∀ y : zQu, (∀ b ∈ zQa c.2.s, b ∉ zQa y.s) -> toR val' y = toR val y) /\ toR val' c2 = A.f (toR val c.2) := by
 cases A with
 | set j v =>
  obtain ⟨rfl, r7, s, rfl, h3, h4, n7, ns⟩ := hc
  have hj := hA j v rfl
  obtain ⟨a, ha⟩ := zXV r2 hj
  have hab : a.block ∈ zQa c.2.s := by simp [zQa, ha]
  have hblk : ∀ b ∈ zQa c.2.s, b = a.block := fun b hb => by simpa [zQa, ha] using hb
  show Calls prog 54 #[.pointer (some ((⟨r, 0, none⟩ : Addr).add 2)), .pointer (some ⟨r7, 0, none⟩), .pointer (some ⟨s, 0, none⟩)] w _
  have hcl : w.cell? (((⟨r, 0, none⟩ : Addr).add 2).add 1) = some (.slice c.2.s.a c.2.s.len c.2.s.cap) := by rw [zQf, zQf, zQs hb]; rfl
  refine Calls.mono (yJk hcl r2 hj h3 h4) ?_
  rintro e w1 ⟨rfl, hr1, hf1, hs1⟩
  have hV := ho _ (.inr hab)
  have hfar := nd.far (y := c.1) (.inl rfl)
  have hD : zQb w1 d 1 (zZI val a.block ((hv val c.2).set j v)) := by
   rcases hfree with hm | hn
   ·exact h.setVal hm ha hf1 hr1
   ·have hf' : Fr (· = a.block) w w1 := hf1.mono fun i hi _ => hblk i hi
    exact ⟨hf'.blk h.st fun e => (by rw [← show d.S = a.block from e, h.bd.oS] at hV; cases hV), h.bd.free hV (hn _ hab) hf' _, h.sd⟩
  have e1 : hv (zZI val a.block ((hv val c.2).set j v)) c.1 = hv val c.1 := zZS fun e => hfar _ hab e
  have e2 : hv (zZI val a.block ((hv val c.2).set j v)) c.2 = (hv val c.2).set j v := zJV ha rfl
  refine ⟨rfl, c.2, _, rfl, hD, hf1.mono fun b hb' _ => .inl (by rw [Own, ho b (.inr hb')]; simp), hf1.blk hb fun e => (by rw [hblk _ e] at hr; rw [hr] at hV; cases hV), ?_, ?_, fun y hy => zZk (hy _ hab), ?_⟩
  ·rw [e1]; exact r1.fr hf1 fun b hb' hb2 => hfar b hb2 hb'
  ·rw [e2]; exact hr1
  ·rw [toR, e2]; rfl
 | mark g =>
  obtain ⟨rfl, r5, rfl, h3, n5⟩ := hc
  show Calls prog 57 #[.pointer (some ((⟨r, 0, none⟩ : Addr).add 2)), .pointer (some ⟨r5, 0, none⟩)] w _
  refine zY6 h3 ?_
  rw [zQf]
  refine zQ9 hb (by show 0 + 2 < 4; omega) fun w1 hw1 hb1 => ?_
  have hf1 : Fr (· = r) w w1 := by rw [hw1]; exact Fr.cell w _ _ _
  have no : ∀ {b : Nat}, d.o b ≠ none -> ¬ b = r := fun {b} hb e => hb (by rw [e]; exact hr)
  refine ⟨rfl, { c.2 with g := g }, val, rfl, h.fr hf1 fun b hb => no hb, hf1.mono fun b hb _ => .inr hb, hb1, r1.fr hf1 fun b hb => no (by rw [ho b (.inl hb)]; simp), r2.fr hf1 fun b hb => no (by rw [ho b (.inr hb)]; simp), fun _ _ => rfl, rfl⟩
theorem yYw (h : zQb w d 1 val) {u : Nat} (hu : u < 4) {k : Int} {c : zQu × zQu} {c2 : zQu} (hs : c2.s = c.2.s) (r1 : zQh w 28 3 c.1.s ((hv val c.1).flatMap zXO)) (r2 : zQh w 28 3 c2.s ((hv val c2).flatMap zXO))
  (ho : ∀ b, b ∈ zQa c.1.s ∨ b ∈ zQa c.2.s -> d.o b = some .V) (nd : ApC d u k c) :
  ∃ w1, (Instr.mapUpdate 88 (.map (some (d.C u))) (.int .i64 k) (.agg #[.bool c.1.g, .slice c.1.s.a c.1.s.len c.1.s.cap, .bool c2.g, .slice c2.s.a c2.s.len c2.s.cap])).run prog w = .ok () w1 /\
   zQb w1 (d.gen u d.o d.rs d.rh (d.asv u) (d.ah u) (d.cs u) (AL.put (d.ch u) k (c.1, c2)) (d.C u)) 1 val /\ Fr (· = d.C u) w w1 /\ w1.heap.size = w.heap.size := by
 obtain ⟨w1, hrun, hm1, hf1, hs1⟩ := (h.mp hu).upd (P := prog) yQY yYz k (c.1, c2)
 have oC := h.bd.oC h.sd u hu
 have ne : ∀ {b : Nat} {κ : zZW}, d.o b = some κ -> κ ≠ .C u -> ¬ b = d.C u := fun {b κ} hb hk e => by rw [e, oC] at hb; exact hk (Option.some.inj hb).symm
 refine ⟨w1, hrun, ⟨?_, ?_, h.sd⟩, hf1, hs1⟩
 ·rw [zKQ]
  exact hf1.blk h.st (ne h.bd.oS (by simp))
 ·refine h.bd.gen hu hf1 (fun b κ hb _ _ _ hk => ⟨ne hb hk, hb⟩) h.bd.oS (h.bd.rw_.fr hf1 fun b hb => ne (h.bd.oR b hb) (by simp)) h.bd.oR ((h.bd.aw u hu).fr hf1 fun b hb => ne (h.bd.oA u hu b hb) (by simp)) (h.bd.oA u hu)
   (fun _ => ⟨hm1, oC⟩) (fun e => absurd (h.sd.symm.trans e) (by simp)) (fun x hx => ?_) (nd.gen hu hs) (fun b hb => Nat.lt_of_lt_of_le (h.bd.lt b hb) hf1.size)
  simp only [List.mem_append] at hx
  rcases hx with (hx | hx) | hx
  ·have := (zZY (d.ch u) k (c.1, c2)).mem_iff.1 hx
   rcases List.mem_cons.1 this with rfl | this
   ·exact .inr ⟨r1.fr hf1 fun b hb => ne (ho b (.inl hb)) (by simp), fun b hb => ho b (.inl hb)⟩
   ·rcases List.mem_cons.1 this with rfl | this
    ·exact .inr ⟨r2.fr hf1 fun b hb => ne (ho b (.inr (by rw [← hs]; exact hb))) (by simp), fun b hb => ho b (.inr (by rw [← hs]; exact hb))⟩
    ·exact .inl ⟨x, zJ5 hu (List.mem_append_left _ (zY0 this)), rfl⟩
  ·exact .inl ⟨x, zZC hu hx, rfl⟩
  ·exact .inl ⟨x, zXn hx, rfl⟩
end Go.Proofs.YtcihcbfcgjepfaaGreatDoor
/- Desks: alter. No condition but those stated. -/
namespace Go.Proofs.YtcihcbfcgjepfaaGreatDoor
open Go.Sh Go.RowKit Tryz
variable {w w' : World} {d d' : zQq} {val : Nat -> List Val} {mu : Int}
theorem zZz.up {A : Do1} {f : Nat} {cap : Array Value} {D D' : Nat -> Prop} (h : zZz A f cap w D) (hd : ∀ b, b < w.heap.size -> D' b -> D b) : zZz A f cap w D' := by
 cases A with
 | set i v =>
  obtain ⟨h1, r, s, h2, h3, h4, h5, h6⟩ := h
  exact ⟨h1, r, s, h2, h3, h4, fun e => h5 (hd _ (zQH h3) e), fun e => h6 (hd _ (zQH h4) e)⟩
 | mark g =>
  obtain ⟨h1, r, h2, h3, h5⟩ := h
  exact ⟨h1, r, h2, h3, fun e => h5 (hd _ (zQH h3) e)⟩
theorem zZz.pu {A : Do1} {f : Nat} {cap : Array Value} {D : Nat -> Prop} (h : zZz A f cap w D) (hp : Pu w w') : zZz A f cap w' D := h.fr (Fr.pu hp : Fr (fun _ => False) w w') fun _ _ e => e.elim
theorem zW6 (h : zQb w d 1 val) {u : Nat} (hu : u < 4) {A : Do1} {f : Nat} {cap : Array Value} {c : zQu × zQu} {r : Nat}
  (hb : w.heap[r]? = some (.cells #[.bool c.1.g, .slice c.1.s.a c.1.s.len c.1.s.cap, .bool c.2.g, .slice c.2.s.a c.2.s.len c.2.s.cap] 133)) (hr : d.o r = none) (hc : zZz A f cap w (fun b => Own d b ∨ b = r))
  (r1 : zQh w 28 3 c.1.s ((hv val c.1).flatMap zXO)) (r2 : zQh w 28 3 c.2.s ((hv val c.2).flatMap zXO)) (ho : ∀ b, b ∈ zQa c.1.s ∨ b ∈ zQa c.2.s -> d.o b = some .V)
  (hfree : c.2 ∈ zXs d ∨ ∀ b ∈ zQa c.2.s, b ∉ vB (zXs d)) (nd : ApC d u (d.at_ u) c) (hA : ∀ j v, A = .set j v -> j < (hv val c.2).length) {R : Rt}
  (hR : ∀ w' d' val', zQb w' d' 1 val' -> Fr (fun b => Own d b ∨ b = r) w w' -> d'.o = d.o -> d'.S = d.S ->
   zQc d' val' = (zQc d val).setU u { (zQc d val).us u with ch := AL.put ((zQc d val).us u).ch (d.at_ u) (toR val c.1, A.f (toR val c.2)) } -> R (.returned (.int .i64 0)) w') :
  zXv prog f = true /\ Calls prog f (([.pointer (some ((⟨r, 0, none⟩ : Addr).add 2))] : List Value) ++ cap.toList).toArray w fun e w33 => e = .returned (.tuple #[]) /\ dwE w33 fun w34 =>
   ∃ m70 : Option Nat, w34.cell? ((uA d u).add 2) = some (.map m70) /\ ∃ n74 : Int, w34.cell? ((uA d u).add 1) = some (.int .i64 n74) /\
   ∃ b75_0 : Bool, w34.cell? ((⟨r, 0, none⟩ : Addr).add 0) = some (.bool b75_0) /\ ∃ l75_1 : SV, w34.cell? ((⟨r, 0, none⟩ : Addr).add 1) = some (.slice l75_1.a l75_1.len l75_1.cap) /\
   ∃ b75_2 : Bool, w34.cell? ((⟨r, 0, none⟩ : Addr).add 2) = some (.bool b75_2) /\ ∃ l75_3 : SV, w34.cell? ((⟨r, 0, none⟩ : Addr).add 3) = some (.slice l75_3.a l75_3.len l75_3.cap) /\
   doE prog (Instr.mapUpdate 88 (.map m70) (.int .i64 n74) (.agg #[.bool b75_0, .slice l75_1.a l75_1.len l75_1.cap, .bool b75_2, .slice l75_3.a l75_3.len l75_3.cap])) w34 fun w37 => R (.returned (.int .i64 0)) w37 := by
 refine ⟨hc.body, (do_chg h hu hb hr hc r1 r2 ho hfree nd hA).mono ?_⟩
 rintro e w33 ⟨rfl, c2, val', hs, h33, hf33, hb33, q1, q2, same, hc2⟩
 refine ⟨rfl, zQl fun w34 hp34 _ => ?_⟩
 have h34 := h33.pu hp34
 have hb34 := hp34.blk hb33
 obtain ⟨w37, hrun, h37, hf37, _⟩ := yYw h34 hu (k := d.at_ u) (c := c) hs (q1.pu hp34) (q2.pu hp34) ho nd
 refine ⟨some (d.C u), h34.uCh hu, d.at_ u, h34.uAt hu, _, cl hb34 0, c.1.s, cl hb34 1, _, cl hb34 2, c2.s, cl hb34 3, w37, hrun, ?_⟩
 refine hR w37 _ val' h37 ((hf33.trans (Fr.pu hp34 : Fr (fun b => Own d b ∨ b = r) w33 w34) fun i hi _ => hi).trans hf37 fun i hi _ => .inl (by rw [Own, show i = d.C u from hi, h.bd.oC h.sd u hu]; simp)) rfl rfl ?_
 rw [zYO h.bd.low nd same, hc2]
theorem yJx (h : zQb w d 1 val) (hI : Inv (zQc d val)) {u : Nat} (hu : u < 4) (h0 : d.at_ u ≠ 0) {A : Do1} {f : Nat} {cap : Array Value} (hc : zZz A f cap w (Own d)) (hA : ∀ j v, A = .set j v -> j < d.flds.length) :
  Calls prog 53 #[d.ptr, .int .i64 (u : Int), .pointer (some (uA d u)), .func (.func f) #[] cap] w fun e w' => e = .returned (.int .i64 (zQR u (zQc d val))) /\ ∃ d' val', zQ2 w w' d d' 1 val' /\ zQc d' val' = if zQR u (zQc d val) = 0 then zXq u A.f (zQc d val) else zQc d val := by
 refine yKd _ _ _ _ w _ ⟨_, h.uAt hu, (lock_c h hu).mono ?_⟩
 rintro e w2 ⟨rfl, lk', h2, hf2, hs2, e2⟩
 have L2 : zQ2 w w2 d { d with lk := lk' } 1 val := ⟨h2, hf2.mono fun i hi _ => by rw [show i = d.L from hi, h.bd.oL]; simp, fun b hb => .inl hb, rfl⟩
 have eM : ((zQc d val).us u).mode = d.mode u := rfl
 have eA : ((zQc d val).us u).at_ = d.at_ u := rfl
 refine ⟨_, rfl, Br.of (fun c => ?_) (fun c => ?_)⟩
 ·have c : zQR u (zQc d val) ≠ 0 := zQ5 c
  rw [if_neg c] at e2
  exact ⟨rfl, _, val, L2, by rw [if_neg c]; exact e2⟩
 have c : zQR u (zQc d val) = 0 := zQv c
 rw [if_pos c] at e2
 have hc2 : zZz A f cap w2 (Own d) := hc.fr hf2 fun b _ hb => by rw [Own, show b = d.L from hb, h.bd.oL]; simp
 have hat := hI.at_ u hu
 rw [eA, zKJ, show (zQc d val).recs.length = d.rh.length by simp [zQc]] at hat
 have hal := h.as_len hu
 have hrl := h.rs_len
 have hr3 := hI.rh
 have ha3 := hI.ah hu
 have fin : ∀ {w5 w6 : World} {d' : zQq} {val' : Nat -> List Val}, Pu w2 w5 -> zQb w6 d' 1 val' -> Fr (Own d) w5 w6 -> (∀ b, d'.o b ≠ none -> d.o b ≠ none ∨ w5.heap.size <= b) -> d'.S = d.S -> zQc d' val' = zXq u A.f (zQc d val) ->
   Ending.returned (.int .i64 0) = .returned (.int .i64 (zQR u (zQc d val))) /\ ∃ d' val', zQ2 w w6 d d' 1 val' /\ zQc d' val' = if zQR u (zQc d val) = 0 then zXq u A.f (zQc d val) else zQc d val := fun {w5 w6 d' val'} hp h6 hf ho hS ha =>
  ⟨by rw [c], d', val', L2.trans ⟨h6, (Fr.pu hp : Fr (Own d) w2 w5).trans hf fun i hi _ => hi, fun b hb => (ho b hb).imp id fun hz => Nat.le_trans hp.size hz, hS⟩, by rw [if_pos c]; exact ha⟩
 refine ⟨_, h2.uAt hu, Br.of (fun c1 => zQl fun w5 hp5 _ => ?_) (fun c1 => ⟨_, h2.uMode hu, Br.of (fun c2 => zQl fun w5 hp5 _ => ?_) (fun c2 => zQl fun w5 hp5 _ => ?_)⟩)⟩
 ·have c1 : d.at_ u < 0 := zQn c1
  have h5 := h2.pu hp5
  have hlt : (-d.at_ u - 1).toNat < (d.ah u).length := by omega
  obtain ⟨x, hx⟩ := zXD hlt
  obtain ⟨a, ea, _, _⟩ := (h5.bd.aw u hu).elem zQm hx (o := 0) (v := .bool x.g) rfl
  have ew : IntKind.i64.wrap ((IntKind.i64.wrap (0 - d.at_ u)) - 1) = -d.at_ u - 1 := by rw [zQe (n := 0 - d.at_ u) (by omega) (by omega), zQe (by omega) (by omega)]; omega
  refine ⟨d.asv u, h5.uAp hu, d.at_ u, h5.uAt hu, a, ea, ?_⟩
  rw [ew]
  refine ⟨by show 0 <= -d.at_ u - 1; omega, by show -d.at_ u - 1 < (((d.asv u).len : Nat) : Int); omega, hc2.body, (do_ap h5 hu (hc2.pu hp5) hx (fun j v e => by rw [(h.read hI (zZC hu (List.mem_of_getElem? hx))).2]; exact hA j v e) ea).mono ?_⟩
  rintro e w6 ⟨rfl, d', val', h6, hf6, ho6, hS6, habs⟩
  refine ⟨rfl, fin hp5 h6 hf6 (fun b hb => .inl (by rw [ho6] at hb; exact hb)) hS6 ?_⟩
  rw [habs, yQq, e2]
  have e3 : zX4 u (zQc d val) = zQc d val := by simp only [zX4, eM, eA]; rw [if_pos (.inr (.inr (.inl c1)))]
  rw [e3]
  simp only [zXq, eA]
  rw [if_pos c1]
 ·have c1 : ¬ d.at_ u < 0 := zQg c1
  have c2 : d.mode u = 0 := zQA c2
  have h5 := h2.pu hp5
  have hlt : (d.at_ u - 1).toNat < d.rh.length := by omega
  obtain ⟨x, hx⟩ := zXD hlt
  obtain ⟨a, ea, _, _⟩ := h5.bd.rw_.elem zQm hx (o := 0) (v := .bool x.g) rfl
  refine ⟨d.rs, h5.recs, d.at_ u, h5.uAt hu, a, ea, ?_⟩
  rw [zQe (by omega) (by omega)]
  refine ⟨by show 0 <= d.at_ u - 1; omega, by show d.at_ u - 1 < ((d.rs.len : Nat) : Int); omega, hc2.body, (do_rec h5 (hc2.pu hp5) hx (fun j v e => by rw [(h.read hI (zXn (List.mem_of_getElem? hx))).2]; exact hA j v e) ea).mono ?_⟩
  rintro e w6 ⟨rfl, d', val', h6, hf6, ho6, hS6, habs⟩
  refine ⟨rfl, fin hp5 h6 hf6 (fun b hb => .inl (by rw [ho6] at hb; exact hb)) hS6 ?_⟩
  rw [habs, yQq, e2]
  have e3 : zX4 u (zQc d val) = zQc d val := by simp only [zX4, eM, eA]; rw [if_pos (.inr (.inr (.inr c2)))]
  rw [e3]
  simp only [zXq, eM, eA]
  rw [if_neg c1, if_pos c2]
 ·have c1 : ¬ d.at_ u < 0 := zQg c1
  have c2 : d.mode u ≠ 0 := zQj c2
  have h5 := h2.pu hp5
  have hlt : (d.at_ u - 1).toNat < d.rh.length := by omega
  obtain ⟨x, hx⟩ := zXD hlt
  have hxm : x ∈ zXs d := zXn (List.mem_of_getElem? hx)
  have hlen := (h.read hI hxm).2
  have hl16 : d.flds.length <= 16 := hI.f16
  have hl1 : d.flds ≠ [] := (zQO hI.vf).1
  have hl1 : 0 < d.flds.length := List.length_pos_iff.2 hl1
  have ew : IntKind.i64.wrap (d.at_ u - 1) = d.at_ u - 1 := zQe (by omega) (by omega)
  have recE : zJJ (zQc d val) (d.at_ u) = toR val x := by
   unfold zJJ
   show (d.rh.map (toR val)).getD _ _ = _
   rw [List.getD_eq_getElem?_getD, List.getElem?_map, hx]; rfl
  refine ⟨fun y => Pu w5 y, Pu.refl _, some (d.C u), fun y hy => (h5.pu hy).uCh hu, d.at_ u, fun y hy => (h5.pu hy).uAt hu, _, (chG (d.ch u) (d.at_ u)).1.s, _, (chG (d.ch u) (d.at_ u)).2.s, _, fun y hy => yZu ((h5.pu hy).mp hu) _, alB fun w21 hp21 hb21 => ⟨hp21, zQy hb21 yKO.symm rfl rfl fun w22 hb22 hf22 hs22 => ?_⟩⟩
  have zr : w5.heap.size < w21.heap.size := zQH hb21
  have hp22 : Pu w5 w22 := hp21.andNew hf22 fun i hi => by rw [show i = w5.heap.size from hi]; exact Nat.le_refl _
  have h22 := h5.pu hp22
  have z5 := hp5.size
  have nR : d.o w5.heap.size = none := h5.bd.out (Nat.le_refl _)
  refine Br.of (fun cn => ?_) (fun ce => ?_)
  ·have cn : AL.get (d.ch u) (d.at_ u) = none := by simpa using cn
   refine zQl fun w23 hp23 _ => ?_
   have h23 := h22.pu hp23
   have hb23 := hp23.blk hb22
   obtain ⟨a, ea, _, g0⟩ := h23.bd.rw_.elem zQm hx (o := 0) (v := .bool x.g) rfl
   have rd : ∀ y, Pu w23 y -> y.cell? ((a.add ((d.at_ u - 1).toNat * 2)).add 0) = some (.bool x.g) /\ y.cell? ((a.add ((d.at_ u - 1).toNat * 2)).add 1) = some (.slice x.s.a x.s.len x.s.cap) := fun y hy => by
    obtain ⟨a', ea', _, g1⟩ := h23.bd.rw_.elem zQm hx (o := 1) (v := .slice x.s.a x.s.len x.s.cap) rfl
    rw [ea] at ea'; cases ea'
    exact ⟨hy.cell g0, hy.cell g1⟩
   refine ⟨fun y => Pu w23 y, Pu.refl _, d.rs, fun y hy => (h23.pu hy).recs, d.at_ u, fun y hy => (h23.pu hy).uAt hu, a, ea, ?_⟩
   rw [ew]
   refine ⟨by show 0 <= d.at_ u - 1; omega, by show d.at_ u - 1 < ((d.rs.len : Nat) : Int); omega, x.g, fun y hy => (rd y hy).1, x.s, fun y hy => (rd y hy).2, d.rs, fun y hy => (h23.pu hy).recs, d.at_ u, fun y hy => (h23.pu hy).uAt hu, a, ea, ?_⟩
   rw [ew]
   refine ⟨by show 0 <= d.at_ u - 1; omega, by show d.at_ u - 1 < ((d.rs.len : Nat) : Int); omega, x.g, fun y hy => (rd y hy).1, x.s, fun y hy => (rd y hy).2, (zWR (h23.vals hxm (by omega)) (by omega)).mono ?_⟩
   rintro e w30 ⟨s1, rfl, n1, hp30⟩
   have h30 := h23.pu hp30
   refine ⟨_, s1, rfl, hp30, (zWR (h30.vals hxm (by omega)) (by omega)).mono ?_⟩
   rintro e w31 ⟨s2, rfl, n2, hp31⟩
   have h31 := h30.pu hp31
   have hb31 := hp31.blk (hp30.blk hb23)
   refine ⟨_, s2, rfl, zQy hb31 yKO.symm rfl rfl fun w32 hb32 hf32 hs32 => ?_⟩
   obtain ⟨a1, ea1⟩ := zXV (i := 0) n1.1 (by omega)
   obtain ⟨a2, ea2⟩ := zXV (i := 0) n2.1 (by omega)
   have bk1 : zQa s1 = [a1.block] := by simp [zQa, ea1]
   have bk2 : zQa s2 = [a2.block] := by simp [zQa, ea2]
   have m1 : w23.heap.size <= a1.block := n1.2 _ (by rw [bk1]; simp)
   have m1' : a1.block < w30.heap.size := n1.1.lt _ (by rw [bk1]; simp)
   have m2 : w30.heap.size <= a2.block := n2.2 _ (by rw [bk2]; simp)
   have m2' : a2.block < w31.heap.size := n2.1.lt _ (by rw [bk2]; simp)
   have z23 := hp23.size
   have z30 := hp30.size
   have z31 := hp31.size
   have o1 : ({ d with lk := lk' } : zQq).o a1.block = none := h23.bd.out m1
   have bd1 := h31.bd.ad o1 (by omega) (hv val x)
   have o2 : (({ d with lk := lk' } : zQq).ad a1.block).o a2.block = none := by
    show (if a2.block = a1.block then _ else _) = _
    rw [if_neg (by omega)]; exact h23.bd.out (by omega)
   have bd2 := bd1.ad o2 (by omega) (hv val x)
   have oR : ((({ d with lk := lk' } : zQq).ad a1.block).ad a2.block).o w5.heap.size = none := by
    show (if _ = a2.block then _ else if _ = a1.block then _ else _) = _
    rw [if_neg (by omega), if_neg (by omega)]; exact nR
   have h31' : zQb w31 ((({ d with lk := lk' } : zQq).ad a1.block).ad a2.block) 1 (zZI (zZI val a1.block (hv val x)) a2.block (hv val x)) := ⟨h31.st, bd2, h31.sd⟩
   have h32 := h31'.fr hf32 fun b hb e => hb (by rw [show b = w5.heap.size from e]; exact oR)
   have v1 : hv (zZI (zZI val a1.block (hv val x)) a2.block (hv val x)) ⟨x.g, s1⟩ = hv val x := by
    rw [zZS (by show a2.block ∉ zQa s1; rw [bk1]; simp; omega)]
    exact zJV ea1 rfl
   have v2 : hv (zZI (zZI val a1.block (hv val x)) a2.block (hv val x)) ⟨x.g, s2⟩ = hv val x := zJV ea2 rfl
   have ha4 : zQc ((({ d with lk := lk' } : zQq).ad a1.block).ad a2.block) (zZI (zZI val a1.block (hv val x)) a2.block (hv val x)) = zX4 u (zQc d val) := by
    rw [yWO bd1 o2, yWO h31.bd o1, yQq, e2]
   have hpw : Pu w2 w32 := ((((hp5.trans hp22).trans hp23).trans hp30).trans hp31).andNew hf32 fun i hi => by rw [show i = w5.heap.size from hi]; exact z5
   have hf31 : Fr (· = w5.heap.size) w31 w32 := hf32
   have nlt : ∀ b ∈ vB (chH (d.ch u) ++ d.ah u ++ zXw d u), b < w2.heap.size := fun b hb => by
    have : b ∈ vB (zXs d) := (zZx (zW9 d hu)).mem_iff.2 hb
    exact h2.bd.lt b (by rw [show ({ d with lk := lk' } : zQq).o b = d.o b from rfl, h.bd.oV b this]; simp)
   have z22 := hp22.size
   refine zW6 (A := A) (R := fun e w' => e = .returned (.int .i64 (zQR u (zQc d val))) /\ ∃ d' val', zQ2 w w' d d' 1 val' /\ zQc d' val' = if zQR u (zQc d val) = 0 then zXq u A.f (zQc d val) else zQc d val) h32 hu (c := (⟨x.g, s1⟩, ⟨x.g, s2⟩)) hb32 oR ((hc2.up fun b hb hD => ?_).pu hpw) ?_ ?_ (fun b hb => ?_) (.inr fun b hb hbx => ?_) ?_ (fun j v e => ?_) fun w' d' val' hD hf ho hS habs => ?_
   ·rcases hD with hD | hD
    ·have hD : (if b = a2.block then some zZW.V else if b = a1.block then some .V else d.o b) ≠ none := hD
     rwa [if_neg (by omega), if_neg (by omega)] at hD
    ·omega
   ·rw [v1]; exact (n1.1.pu hp31).fr hf31 fun b hb e => by rw [bk1] at hb; simp at hb; have : b = w5.heap.size := e; omega
   ·rw [v2]; exact n2.1.fr hf31 fun b hb e => by rw [bk2] at hb; simp at hb; have : b = w5.heap.size := e; omega
   ·show (if b = a2.block then some zZW.V else if b = a1.block then some .V else d.o b) = _
    rcases hb with hb | hb
    ·have hb : b ∈ zQa s1 := hb
     rw [bk1] at hb; simp at hb
     rw [if_neg (by omega), if_pos hb]
    ·have hb : b ∈ zQa s2 := hb
     rw [bk2] at hb; simp at hb
     rw [if_pos hb]
   ·have hb : b ∈ zQa s2 := hb
    rw [bk2] at hb; simp at hb
    have := nlt b ((zZx (zW9 d hu)).mem_iff.1 hbx)
    omega
   ·unfold ApC
    rw [AL.del_none (by exact cn), zQZ, zQZ]
    show (zQa s1 ++ (zQa s2 ++ vB (chH (d.ch u) ++ d.ah u ++ zXw d u))).Nodup
    rw [bk1, bk2]
    simp only [List.singleton_append, List.nodup_cons, List.mem_cons, not_or]
    refine ⟨⟨by omega, fun hb => ?_⟩, fun hb => ?_, (yWe hu).1 h.bd.nd⟩
    ·have := nlt _ hb; omega
    ·have := nlt _ hb; omega
   ·rw [v2, hlen]; exact hA j v e
   ·rw [ha4] at habs
    refine fin hp5 hD (((Fr.pu ((((hp22.trans hp23).trans hp30).trans hp31).andNew hf32 fun i hi => by rw [show i = w5.heap.size from hi]; exact Nat.le_refl _) : Fr (Own d) w5 w32).trans hf fun i hi hlt => ?_)) (fun b hb => ?_) hS ?_
    ·rcases hi with hi | hi
     ·have hi : (if i = a2.block then some zZW.V else if i = a1.block then some .V else d.o i) ≠ none := hi
      rwa [if_neg (by omega), if_neg (by omega)] at hi
     ·omega
    ·rw [ho] at hb
     have hb : (if b = a2.block then some zZW.V else if b = a1.block then some .V else d.o b) ≠ none := hb
     by_cases q2 : b = a2.block
     ·right; omega
     ·by_cases q1 : b = a1.block
      ·right; omega
      ·rw [if_neg q2, if_neg q1] at hb; exact .inl hb
    ·rw [habs]
     simp only [zXq, eM, eA]
     rw [if_neg c1, if_neg c2]
     have e5 : ((zX4 u (zQc d val)).us u) = (zQc d val).us u := by unfold zX4; simp only; split <;> rfl
     have e6 : AL.get ((zQc d val).us u).ch (d.at_ u) = none := by
      show AL.get ((d.ch u).map (toC val)) _ = _
      rw [zZ2, cn]; rfl
     have e7 : toR (zZI (zZI val a1.block (hv val x)) a2.block (hv val x)) ⟨x.g, s1⟩ = toR val x := by rw [toR, v1]; rfl
     have e8 : toR (zZI (zZI val a1.block (hv val x)) a2.block (hv val x)) ⟨x.g, s2⟩ = toR val x := by rw [toR, v2]; rfl
     rw [e5, e6, e7, e8, recE]
     rfl
  ·have ce : (AL.get (d.ch u) (d.at_ u)).isSome = true := by simpa using ce
   obtain ⟨c0, hc0⟩ := Option.isSome_iff_exists.1 ce
   have eG : chG (d.ch u) (d.at_ u) = c0 := by rw [chG, hc0]; rfl
   rw [eG] at hb22
   have mc := zVx hu (AL.get_mem hc0)
   have mc1 : c0.1 ∈ zXs d := mc.1
   have mc2 : c0.2 ∈ zXs d := mc.2
   refine zW6 (A := A) (R := fun e w' => e = .returned (.int .i64 (zQR u (zQc d val))) /\ ∃ d' val', zQ2 w w' d d' 1 val' /\ zQc d' val' = if zQR u (zQc d val) = 0 then zXq u A.f (zQc d val) else zQc d val) h22 hu (c := c0) hb22 nR ((hc2.up fun b hb hD => ?_).pu (hp5.trans hp22)) (h22.bd.vr _ mc1) (h22.bd.vr _ mc2) (fun b hb => ?_) (.inl mc2) ?_ (fun j v e => ?_) fun w' d' val' hD hf ho hS habs => ?_
   ·rcases hD with hD | hD
    ·exact hD
    ·omega
   ·rcases hb with hb | hb
    ·exact h.bd.oV b (zXe mc1 hb)
    ·exact h.bd.oV b (zXe mc2 hb)
   ·show (vB (c0.1 :: c0.2 :: (chH (AL.del (d.ch u) (d.at_ u)) ++ d.ah u ++ zXw d u))).Nodup
    have q1 := (yWe hu).1 h.bd.nd
    have q2 := zZY (d.ch u) (d.at_ u) c0
    rw [zK1 hc0] at q2
    have q3 : (uH d u ++ zXw d u).Perm (c0.1 :: c0.2 :: (chH (AL.del (d.ch u) (d.at_ u)) ++ d.ah u ++ zXw d u)) := by
     have := (q2.append_right (d.ah u)).append_right (zXw d u)
     simpa [uH] using this
    exact (zZx q3).nodup_iff.1 q1
   ·rw [(h.read hI mc2).2]; exact hA j v e
   ·refine fin hp5 hD ((Fr.pu hp22 : Fr (Own d) w5 w22).trans hf fun i hi hlt => ?_) (fun b hb => ?_) hS ?_
    ·rcases hi with hi | hi
     ·exact hi
     ·omega
    ·rw [ho] at hb; exact .inl hb
    ·rw [habs, yQq, e2]
     simp only [zXq, eM, eA]
     rw [if_neg c1, if_neg c2]
     have e5 : ((zX4 u (zQc d val)).us u) = (zQc d val).us u := by unfold zX4; simp only; split <;> rfl
     have e6 : AL.get ((zQc d val).us u).ch (d.at_ u) = some (toR val c0.1, toR val c0.2) := by
      show AL.get ((d.ch u).map (toC val)) _ = _
      rw [zZ2, hc0]; rfl
     rw [e5, e6]
     rfl
end Go.Proofs.YtcihcbfcgjepfaaGreatDoor
/- Desks: Set, Mark. No condition but those stated. -/
namespace Go.Proofs.YtcihcbfcgjepfaaGreatDoor
open Go.Sh Go.RowKit Tryz
variable {w w' : World} {d d' : zQq} {val : Nat -> List Val} {mu : Int}
theorem yQf.dl {w2 : World} (h : yQf w w2 d val) : zQ2 w w2 d d 1 val := ⟨h.at_, h.fr, fun _ h => .inl h, rfl⟩
theorem yK6 (h : zQb w d 0 val) (hI : Inv (zQc d val)) (u : Int) (field : ByteArray) (v : Val) :
  Calls prog 16 #[d.ptr, .int .i64 u, .string field, zKq v] w fun e w' => e = .returned (.int .i64 (zYc u field v (zQc d val))) /\ ∃ d' val', zQ2 w w' d d' 0 val' /\ zQc d' val' = yXS u field v (zQc d val) := by
 refine yZc _ u field v.kind v.n v.s w _ (alB fun w1 hp1 hb1 => (zX1 h hp1 u).mono ?_)
 rintro e w2 ⟨rfl, h2, hf2, hs2⟩
 have z1 := hp1.size
 have lr : w.heap.size < w1.heap.size := zQH hb1
 have ho : d.o w.heap.size = none := h.bd.out (Nat.le_refl _)
 have nS : ¬ w.heap.size = d.S := fun e => by rw [e, h.bd.oS] at ho; cases ho
 have hb2 := hf2.blk hb1 nS
 have bad : ∀ {w3 : World} (n : Int), yQf w w3 d val -> zYc u field v (zQc d val) = n -> n ≠ 0 -> zQd prog [zZj d] w3 fun w' => Ending.returned (.int .i64 n) = .returned (.int .i64 (zYc u field v (zQc d val))) /\ ∃ d' val', zQ2 w w' d d' 0 val' /\ zQc d' val' = yXS u field v (zQc d val) := fun {w3} n h3 hn h0 =>
  h3.left fun w' hL _ _ => ⟨by rw [hn], d, val, hL, by rw [yXS, hn, if_neg h0]⟩
 refine ⟨_, _, _, rfl, Br.of (fun c => ?_) (fun c => ?_)⟩
 ·have hu := yQE c
  have e1 : uC u = 1 := by rw [uC, if_neg hu]
  rw [e1]
  exact bad 1 h2 (by rw [zYc, if_pos hu]) (by decide)
 have hu := yXs c
 obtain ⟨n, rfl, hn⟩ := zJO hu
 rw [yXE hn]
 have eA : ((zQc d val).us n).at_ = d.at_ n := rfl
 refine ⟨_, h2.at_.uAt hn, Br.of (fun c1 => ?_) (fun c1 => ?_)⟩
 ·have c1 : d.at_ n = 0 := zQA c1
  exact bad 9 h2 (by rw [zYc, if_neg (by simp [hu]), zZa, eA, if_pos c1]) (by decide)
 have c1 : d.at_ n ≠ 0 := zQj c1
 refine ⟨d.fs, h2.at_.flds, (yZE (h2.at_.fld hI.vf) field).mono ?_⟩
 rintro e w7 ⟨rfl, hp7⟩
 refine ⟨_, _, rfl, alB fun w8 hp8 hb8 => ?_⟩
 refine zQ9 hb8 (by decide) fun w9 hw9 hb9 => ?_
 have z7 := hp7.size
 have z8 := hp8.size
 have z2 : w1.heap.size = w2.heap.size := hs2.symm
 have hf9 : Fr (· = w7.heap.size) w8 w9 := by rw [hw9]; exact Fr.cell w8 _ _ _
 have hp29 : Pu w2 w9 := (hp7.trans hp8).andNew hf9 fun i hi => by rw [show i = w7.heap.size from hi]; exact z7
 have h9 := h2.pu hp29
 have eC : zYc (n : Int) field v (zQc d val) = match zVn d.flds field with | none => 4 | some i => if (zJu (d.flds.getD i default) d.page v).2 ≠ 0 then (zJu (d.flds.getD i default) d.page v).2 else zQR n (zQc d val) := by
  rw [zYc, if_neg (by simp [hu]), zZa, eA, if_neg c1]; rfl
 refine Br.of (fun c2 => ?_) (fun c2 => ?_)
 ·have c2 : zVn d.flds field = none := by simpa using c2
  rw [c2] at eC
  exact bad 4 h9 eC (by decide)
 have c2 : (zVn d.flds field).isSome = true := by simpa using c2
 obtain ⟨i, hi⟩ := Option.isSome_iff_exists.1 c2
 have hil := yZq hi
 obtain ⟨fd, hfd⟩ := zXD hil
 have eD : d.flds.getD i default = fd := by rw [List.getD_eq_getElem?_getD, hfd]; rfl
 have eK : idxK d.flds field = (i : Int) := by rw [idxK, hi]; rfl
 rw [hi] at eC
 simp only [eD] at eC
 refine zQl fun w11 hp11 _ => ?_
 have h11 := h9.pu hp11
 have hb11 := (hp29.trans hp11).blk hb2
 have hc11 := hp11.blk hb9
 obtain ⟨a, ea, _, _, _, _, f0, f1, f2, f3⟩ := zJf (h11.at_.fld hI.vf) hfd
 have hfl := (h11.at_.fld hI.vf).len
 refine ⟨d.fs, h11.at_.flds, (i : Int), ?_, a, ea, by omega, by omega, fd.name, f0, fd.kind, f1, fd.width, f2, fd.null, f3, d.page, h11.at_.page, v.kind, cl hb11 0, v.n, cl hb11 1, v.s, cl hb11 2, (fit_c fd d.page v ?_ w11).mono ?_⟩
 ·rw [cl0 hc11, eK]; rfl
 ·have := zWu (hI.fB (f := fd) (List.mem_of_getElem? hfd)); omega
 rintro e w15 ⟨rfl, hp15⟩
 refine ⟨_, _, _, _, rfl, zQy (hp15.blk hb11) yKr.symm rfl rfl fun w16 hb16 hf16 hs16 => ?_⟩
 have h15 := h11.pu hp15
 have h16 : yQf w w16 d val := ⟨h15.at_.fr hf16 fun b hb e => hb (by rw [show b = w.heap.size from e]; exact ho), h15.fr.trans hf16 fun i hi hlt => by have hi : i = w.heap.size := hi; omega⟩
 refine Br.of (fun c3 => ?_) (fun c3 => ?_)
 ·have c3 := zQ5 c3
  exact bad _ h16 (by rw [eC, if_pos c3]) c3
 ·have c3 := zQv c3
  rw [if_neg (by simp [c3])] at eC
  have ho7 : d.o w7.heap.size = none := h.bd.out (by omega)
  have hc16 : w16.heap[w7.heap.size]? = some (.cells #[.int .i64 (i : Int)] 3) := by
   have := hf16.blk (hp15.blk hc11) (by show ¬ w7.heap.size = w.heap.size; omega)
   rw [this, eK]; rfl
  have hcap : zZz (.set i (zJu fd d.page v).1) 54 #[.pointer (some ⟨w.heap.size, 0, none⟩), .pointer (some ⟨w7.heap.size, 0, none⟩)] w16 (Own d) := ⟨rfl, _, _, rfl, hb16, hc16, fun e => e ho, fun e => e ho7⟩
  refine (yJx h16.at_ hI hn c1 hcap fun j v' e => by cases e; exact hil).mono ?_
  rintro e w18 ⟨rfl, d', val', hL, habs⟩
  refine ⟨_, rfl, ?_⟩
  have LL := h16.dl.trans hL
  rw [← show d'.ptr = d.ptr by unfold zQq.ptr; rw [hL.ptr]]
  refine zXo LL fun w' hL' _ _ => ⟨by rw [eC], d', val', hL', ?_⟩
  rw [habs, yXS, eC]
  have e0 : (zQc d val).flds = d.flds := rfl
  have e1 : (zQc d val).page = d.page := rfl
  rw [e0, e1, hi]
  simp only [eD, zZa]
  rfl
theorem yJj (h : zQb w d 0 val) (hI : Inv (zQc d val)) (u : Int) (g : Bool) :
  Calls prog 20 #[d.ptr, .int .i64 u, .bool g] w fun e w' => e = .returned (.int .i64 (zJo u (zQc d val))) /\ ∃ d' val', zQ2 w w' d d' 0 val' /\ zQc d' val' = zKZ u g (zQc d val) := by
 refine yZ3 _ u g w _ (alB fun w1 hp1 hb1 => (zX1 h hp1 u).mono ?_)
 rintro e w2 ⟨rfl, h2, hf2, hs2⟩
 have ho : d.o w.heap.size = none := h.bd.out (Nat.le_refl _)
 have nS : ¬ w.heap.size = d.S := fun e => by rw [e, h.bd.oS] at ho; cases ho
 have hb2 := hf2.blk hb1 nS
 have bad : ∀ (n : Int), zJo u (zQc d val) = n -> n ≠ 0 -> zQd prog [zZj d] w2 fun w' => Ending.returned (.int .i64 n) = .returned (.int .i64 (zJo u (zQc d val))) /\ ∃ d' val', zQ2 w w' d d' 0 val' /\ zQc d' val' = zKZ u g (zQc d val) := fun n hn h0 =>
  h2.left fun w' hL _ _ => ⟨by rw [hn], d, val, hL, by rw [zKZ, hn, if_neg h0]⟩
 refine ⟨_, _, _, rfl, Br.of (fun c => ?_) (fun c => ?_)⟩
 ·have hu := yQE c
  have e1 : uC u = 1 := by rw [uC, if_neg hu]
  rw [e1]
  exact bad 1 (by rw [zJo, if_pos hu]) (by decide)
 have hu := yXs c
 obtain ⟨n, rfl, hn⟩ := zJO hu
 rw [yXE hn]
 have eA : ((zQc d val).us n).at_ = d.at_ n := rfl
 refine ⟨_, h2.at_.uAt hn, Br.of (fun c1 => ?_) (fun c1 => ?_)⟩
 ·have c1 : d.at_ n = 0 := zQA c1
  exact bad 9 (by rw [zJo, if_neg (by simp [hu]), zZa, eA, if_pos c1]) (by decide)
 have c1 : d.at_ n ≠ 0 := zQj c1
 have eC : zJo (n : Int) (zQc d val) = zQR n (zQc d val) := by rw [zJo, if_neg (by simp [hu]), zZa, eA, if_neg c1]
 have hcap : zZz (.mark g) 57 #[.pointer (some ⟨w.heap.size, 0, none⟩)] w2 (Own d) := ⟨rfl, _, rfl, hb2, fun e => e ho⟩
 refine (yJx h2.at_ hI hn c1 hcap fun j v' e => by cases e).mono ?_
 rintro e w18 ⟨rfl, d', val', hL, habs⟩
 refine ⟨_, rfl, ?_⟩
 have LL := h2.dl.trans hL
 rw [← show d'.ptr = d.ptr by unfold zQq.ptr; rw [hL.ptr]]
 refine zXo LL fun w' hL' _ _ => ⟨by rw [eC], d', val', hL', ?_⟩
 rw [habs, zKZ, eC, zZa]
 rfl
end Go.Proofs.YtcihcbfcgjepfaaGreatDoor
/- Desks: clean, Revert, Fall. No condition but those stated. -/
namespace Go.Proofs.YtcihcbfcgjepfaaGreatDoor
open Go.Sh Go.RowKit Tryz
variable {w w' : World} {d d' : zQq} {val : Nat -> List Val} {mu : Int}
theorem yYs {u : Nat} (hu : u < 4) (r : Nat) : (zXh mu d).setIfInBounds (5 + u * 4 + 2) (.map (some r)) = zXh mu { d with C := fun v => if v = u then r else d.C v } := by
 rcases (by omega : u = 0 ∨ u = 1 ∨ u = 2 ∨ u = 3) with rfl | rfl | rfl | rfl <;> rfl
theorem yKI {u : Nat} (hu : u < 4) (s : SV) : (zXh mu d).setIfInBounds (5 + u * 4 + 3) (.slice s.a s.len s.cap) = zXh mu { d with asv := fun v => if v = u then s else d.asv v } := by
 rcases (by omega : u = 0 ∨ u = 1 ∨ u = 2 ∨ u = 3) with rfl | rfl | rfl | rfl <;> rfl
def zQq.clr (d : zQq) (u r : Nat) : zQq := { d with C := fun v => if v = u then r else d.C v, asv := fun v => if v = u then ⟨none, 0, 0⟩ else d.asv v }
theorem zV6 (hst : w.heap[d.S]? = some (.cells (zXh mu d) 93)) {l : List (Int × Int)} (hl : zQ3 w zXp zXp d.L l) (hLS : d.L ≠ d.S) {u : Nat} (hu : u < 4) :
  Calls prog 116 #[d.ptr, .int .i64 (u : Int), .pointer (some (uA d u))] w fun e w' => e = .returned (.tuple #[]) /\ w'.heap[d.S]? = some (.cells (zXh mu (d.clr u w.heap.size)) 93) /\ zQ3 w' zXp chV w.heap.size [] /\
   Fr (fun b => b = d.S ∨ b = d.L) w w' /\ ∃ l', zQ3 w' zXp zXp d.L l' /\ ∀ k, AL.get l' k = if AL.get l k = some (u : Int) then none else AL.get l k := by
 refine yXp _ _ _ w _ (zX8 fun w1 hw1 => ?_)
 have hp1 : Pu w w1 := by rw [hw1]; exact Pu.alloc w _
 have hm1 : zQ3 w1 zXp chV w.heap.size [] := by rw [hw1]; exact zQ3.new w _ _
 have zS : d.S < w.heap.size := zQH hst
 have zL := hl.lt
 have hst1 := hp1.blk hst
 rw [zXB, zQf]
 refine zQ9 hst1 (by show 5 + u * 4 + 2 < 22; omega) fun w2 hw2 hb2 => ?_
 have hf2 : Fr (· = d.S) w1 w2 := by rw [hw2]; exact Fr.cell w1 _ _ _
 rw [yYs hu] at hb2
 rw [zXB, zQf]
 refine zQ9 hb2 (by show 5 + u * 4 + 3 < 22; omega) fun w3 hw3 hb3 => ?_
 have hf3 : Fr (· = d.S) w2 w3 := by rw [hw3]; exact Fr.cell w2 _ _ _
 have hb3 : w3.heap[d.S]? = some (.cells (zXh mu (d.clr u w.heap.size)) 93) := by
  rw [hb3]
  exact congrArg (fun c => some (Obj.cells c 93)) (yKI (d := { d with C := fun v => if v = u then w.heap.size else d.C v }) hu ⟨none, 0, 0⟩)
 have hf13 : Fr (· = d.S) w1 w3 := hf2.trans hf3 fun i hi _ => hi
 have hl3 : zQ3 w3 zXp zXp d.L l := (hl.pu hp1).fr hf13 hLS
 have hm3 : zQ3 w3 zXp chV w.heap.size [] := hm1.fr hf13 (by omega)
 have hF3 : Fr (fun b => b = d.S ∨ b = d.L) w w3 := (Fr.pu hp1 : Fr (fun b => b = d.S ∨ b = d.L) w w1).trans hf13 fun i hi _ => .inl hi
 obtain ⟨w4, hrun, hi4, hp4, hs4⟩ := hl3.range (P := prog) bu80
 refine ⟨some d.L, by rw [zQf, zQs hb3]; rfl, _, w4, hrun, ?_⟩
 have hb4 := hp4.blk hb3
 have z3 := hF3.size
 have zS3 : d.S < w3.heap.size := zQH hb3
 have z13 := hf13.size
 have z1 : w.heap.size < w1.heap.size := by rw [hw1]; simp
 refine zWW l.length (fun m _ w' => ∃ todo cur : List (Int × Int), todo.length = m /\ zQD w' zXp zXp w3.heap.size d.L cur todo /\ (∀ k v, AL.get todo k = some v -> AL.get l k = some v) /\
  (∀ k, AL.get cur k = if (AL.get todo k).isSome then AL.get l k else if AL.get l k = some (u : Int) then none else AL.get l k) /\ Fr (fun b => b = d.L ∨ b = w3.heap.size) w3 w' /\ w'.heap[d.S]? = some (.cells (zXh mu (d.clr u w.heap.size)) 93) /\ zQ3 w' zXp chV w.heap.size [])
  ⟨l, l, rfl, hi4, fun _ _ h => h, fun k => by cases e : AL.get l k <;> simp [e], Fr.pu hp4, hb4, hm3.pu hp4⟩ ?_
 rintro m J s w5 ⟨todo, cur, hm, hi, hT, hC, hf5, hb5, hm5⟩ hJ
 have zl5 : d.L < w3.heap.size := hl3.lt
 rcases hi.next (P := prog) 0 with ⟨h0, hr⟩ | ⟨p, hp, w6, hr, hf6, hs6, hi6, hen⟩
 ·left
  refine ⟨w5, hr, rfl, hb5, hm5, hF3.trans hf5 fun i hi' hlt => ?_, cur, hi.map, fun k => ?_⟩
  ·rcases hi' with hi' | hi'
   ·exact .inr hi'
   ·omega
  ·rw [hC, h0]; rfl
 ·right
  refine ⟨_, _, w6, hr, _, _, w6, hen, ?_⟩
  show Br (p.2 == (u : Int)) _ _
  have hg : AL.get todo p.1 = some p.2 := AL.get_of_mem hi.nodup hp
  have hlen := AL.length_del hp hi.nodup
  have hT6 : ∀ k v, AL.get (AL.del todo p.1) k = some v -> AL.get l k = some v := fun k v hk => by
   rw [AL.get_del hi.nodup] at hk
   by_cases e : p.1 = k
   ·rw [if_pos e] at hk; cases hk
   ·rw [if_neg e] at hk; exact hT k v hk
  have hb6 := hf6.blk hb5 (by omega)
  have hm6 := hm5.fr hf6 (by omega)
  have hf36 : Fr (fun b => b = d.L ∨ b = w3.heap.size) w3 w6 := hf5.trans hf6 fun i hi _ => .inr hi
  have hlp := hT _ _ hg
  refine Br.of (fun c => ?_) (fun c => ?_)
  ·have c := zQA c
   obtain ⟨w7, hd, hi7, hf7, hs7⟩ := hi6.drop (P := prog) (r0 := 0) (tys := #[80, 3]) yQY rfl bu80 (x := p.1) (by rw [← AL.get_none, AL.get_del hi.nodup, if_pos rfl])
   refine ⟨some d.L, by rw [zQf, zQs hb6]; rfl, w7, hd, ?_⟩
   refine hJ (m - 1) _ _ (by omega) ⟨AL.del todo p.1, AL.del cur p.1, by omega, hi7, hT6, fun k => ?_, hf36.trans hf7 fun i hi _ => .inl hi, hf7.blk hb6 (Ne.symm hLS), hm6.fr hf7 (by omega)⟩
   rw [AL.get_del hi6.map.nodup, AL.get_del hi.nodup]
   by_cases e : p.1 = k
   ·subst e
    simp [hlp, c]
   ·simp only [if_neg e]; exact hC k
  ·have c := zQj c
   refine hJ (m - 1) _ _ (by omega) ⟨AL.del todo p.1, cur, by omega, hi6, hT6, fun k => ?_, hf36, hb6, hm6⟩
   rw [AL.get_del hi.nodup, hC]
   by_cases e : p.1 = k
   ·subst e
    simp [hlp, hg, c]
   ·simp only [if_neg e]
end Go.Proofs.YtcihcbfcgjepfaaGreatDoor
/- Desks: Revert, Fall. No condition but those stated. -/
namespace Go.Proofs.YtcihcbfcgjepfaaGreatDoor
open Go.Sh Go.RowKit Tryz
variable {w w' : World} {d d' : zQq} {val : Nat -> List Val} {mu : Int}
def zQq.cln (d : zQq) (u r : Nat) (lk' : Int -> Option Int) : zQq := { d.gen u (fun b => if b = r then some (.C u) else d.o b) d.rs d.rh ⟨none, 0, 0⟩ [] (d.cs u) [] r with lk := lk' }
theorem nd_oth {u : Nat} (hu : u < 4) (h : (vB (zXs d)).Nodup) : (vB (zXw d u)).Nodup := by
 have := (yWe hu).1 h
 rw [zQo] at this
 exact (List.nodup_append.1 this).2.1
theorem yJR (h : zQb w d 1 val) {u : Nat} (hu : u < 4) :
  Calls prog 116 #[d.ptr, .int .i64 (u : Int), .pointer (some (uA d u))] w fun e w' => e = .returned (.tuple #[]) /\ ∃ d', zQ2 w w' d d' 1 val /\ zQc d' val = zXG u (zQc d val) := by
 obtain ⟨l, hl, hk⟩ := h.lm
 have hLS : d.L ≠ d.S := fun e => by have := h.bd.oL; rw [e, h.bd.oS] at this; cases this
 refine (zV6 h.st hl hLS hu).mono ?_
 rintro e w' ⟨rfl, hst, hm, hf, l', hl', hk'⟩
 have ho : d.o w.heap.size = none := h.bd.out (Nat.le_refl _)
 have ne : ∀ {b : Nat} {κ : zZW}, d.o b = some κ -> κ ≠ .S -> κ ≠ .L -> ¬ (b = d.S ∨ b = d.L) := fun {b κ} hb h1 h2 e => by
  rcases e with e | e
  ·rw [e, h.bd.oS] at hb; exact h1 (Option.some.inj hb).symm
  ·rw [e, h.bd.oL] at hb; exact h2 (Option.some.inj hb).symm
 have up : ∀ {b : Nat} {κ : zZW}, d.o b = some κ -> (if b = w.heap.size then some (.C u) else d.o b) = some κ := fun {b κ} hb => by
  rw [if_neg fun e => by rw [e, ho] at hb; cases hb]; exact hb
 refine ⟨rfl, d.cln u w.heap.size fun k => if d.lk k = some (u : Int) then none else d.lk k, ⟨⟨hst, ?_, h.sd⟩, hf.mono fun i hi _ => ?_, fun b hb => ?_, rfl⟩, ?_⟩
 ·refine h.bd.genL hu hf ⟨l', hl', fun k => ?_⟩ (up h.bd.oL) (fun b κ hb k0 k1 k2 k3 k4 => ⟨ne hb k1 k0, up hb⟩) (up h.bd.oS) (h.bd.rw_.fr hf fun b hb => ne (h.bd.oR b hb) (by simp) (by simp)) (fun b hb => up (h.bd.oR b hb)) (zQh.nil _ _ _) (by simp [zQa]) (fun _ => ⟨hm, if_pos rfl⟩) (fun e => absurd (h.sd.symm.trans e) (by simp)) (fun x hx => ?_) ?_ (fun b hb => ?_)
  ·rw [hk', hk, h.sd]
   split
   ·rfl
   ·cases d.lk k <;> rfl
  ·simp only [List.append_nil, chH, List.flatMap_nil, List.nil_append] at hx
   exact .inl ⟨x, zXn hx, rfl⟩
  ·have e : zXw d u = d.rh ++ (zXw d u).drop d.rh.length := by simp [zXw]
   simp only [zYd, chH, List.flatMap_nil, List.nil_append, ← e]
   exact nd_oth hu h.bd.nd
  ·by_cases e : b = w.heap.size
   ·rw [e]; exact hm.lt
   ·rw [if_neg e] at hb
    exact Nat.lt_of_lt_of_le (h.bd.lt b hb) hf.size
 ·rcases hi with rfl | rfl
  ·rw [h.bd.oS]; simp
  ·rw [h.bd.oL]; simp
 ·by_cases e : b = w.heap.size
  ·right; omega
  ·left
   have hb : (if b = w.heap.size then some (zZW.C u) else d.o b) ≠ none := hb
   rwa [if_neg e] at hb
 ·have e1 : zQc (d.cln u w.heap.size fun k => if d.lk k = some (u : Int) then none else d.lk k) val = { zQc (d.gen u (fun b => if b = w.heap.size then some (.C u) else d.o b) d.rs d.rh ⟨none, 0, 0⟩ [] (d.cs u) [] w.heap.size) val with lk := fun k => if d.lk k = some (u : Int) then none else d.lk k } := rfl
  rw [e1, zK9]
  rfl
theorem yWj (h : zQb w d 1 val) (hI : Inv (zQc d val)) {u : Nat} (hu : u < 4) (hc : (d.ch u).length <= 1000000) :
  Calls prog 58 #[d.ptr, .int .i64 (u : Int), .pointer (some (uA d u))] w fun e w' => e = .returned (.int .i64 (((d.ch u).length + (d.ah u).length : Nat) : Int)) /\ ∃ d', zQ2 w w' d d' 1 val /\ zQc d' val = zJt u (zQc d val) := by
 refine yJp _ _ _ w _ (zQl fun w1 hp1 _ => ?_)
 have h1 := h.pu hp1
 have ha := hI.ah hu
 have hal := h.as_len hu
 have eA : ((zQc d val).us u).at_ = d.at_ u := rfl
 have ew : IntKind.i64.wrap (((d.ch u).length : Nat) + (((d.asv u).len : Nat) : Int)) = (((d.ch u).length + (d.ah u).length : Nat) : Int) := by rw [zQe (by omega) (by omega)]; omega
 refine ⟨some (d.C u), h1.uCh hu, _, (h1.mp hu).len rfl yYz, d.asv u, h1.uAp hu, d.at_ u, h1.uAt hu, Br.of (fun c => ?_) (fun c => ?_)⟩
 ·have c := zQn c
  rw [zXB, zQf]
  refine h1.own (d' := d.withAt u 0) (mu' := 1) (by omega) (zVa hu 0) rfl rfl (fun x hb => hb.same _ _) fun w3 h3 hf3 hs3 => ?_
  have L3 : zQ2 w w3 d (d.withAt u 0) 1 val := (zQ2.pu h hp1).trans ⟨h3, hf3.mono fun i hi _ => by rw [show i = d.S from hi, h.bd.oS]; simp, fun _ h => .inl h, rfl⟩
  refine Calls.mono (yJR h3 hu) ?_
  rintro e w' ⟨rfl, d', hL, habs⟩
  refine ⟨rfl, by rw [ew], d', L3.trans hL, ?_⟩
  rw [habs, yVl, zJt, eA, if_pos c]
 ·have c := zQg c
  refine Calls.mono (yJR h1 hu) ?_
  rintro e w' ⟨rfl, d', hL, habs⟩
  refine ⟨rfl, by rw [ew], d', (zQ2.pu h hp1).trans hL, ?_⟩
  rw [habs, zJt, eA, if_neg c]
  congr 1
  simp only [Dsk.setU]
  have : (fun v => if v = u then ({ mode := ((zQc d val).us u).mode, at_ := d.at_ u, ch := ((zQc d val).us u).ch, ap := ((zQc d val).us u).ap } : Usr) else (zQc d val).us v) = (zQc d val).us := by
   funext v
   by_cases e : v = u
   ·rw [if_pos e, e]; rfl
   ·rw [if_neg e]
  rw [this]
theorem Inv.chl (h : Inv (zQc d val)) {u : Nat} (hu : u < 4) : (d.ch u).length <= 300 := by
 have h1 := h.cn u hu
 have h2 : ∀ k ∈ ((zQc d val).us u).ch.map Prod.fst, k ∈ (List.range (zQc d val).recs.length).map fun (i : Nat) => (i : Int) + 1 := fun k hk => by
  obtain ⟨c, hc, rfl⟩ := List.mem_map.1 hk
  have := (h.gc u hu c hc).2
  exact List.mem_map.2 ⟨(c.1 - 1).toNat, List.mem_range.2 (by omega), by omega⟩
 have h3 := List.Nodup.length_le_of_subset h1 h2
 have h4 := h.r300
 simp only [List.length_map, List.length_range] at h3
 have h5 : ((zQc d val).us u).ch.length = (d.ch u).length := zYW
 omega
theorem zYY (h : zQb w d 0 val) (hI : Inv (zQc d val)) (u : Int) :
  Calls prog 22 #[d.ptr, .int .i64 u] w fun e w' => e = .returned (.tuple #[.int .i64 ((zYw u (zQc d val) : Nat) : Int), .int .i64 (uC u)]) /\ ∃ d', zQ2 w w' d d' 0 val /\ zQc d' val = zZe u (zQc d val) := by
 refine yZi _ u w _ ((zX1 h (Pu.refl w) u).mono ?_)
 rintro e w2 ⟨rfl, h2, hf2, hs2⟩
 refine ⟨_, _, _, rfl, Br.of (fun c => ?_) (fun c => ?_)⟩
 ·have hu := yQE c
  exact h2.left fun w' hL _ _ => ⟨by rw [zYw, if_neg hu]; rfl, d, hL, by rw [zZe, if_neg hu]⟩
 have hu := yXs c
 obtain ⟨n, rfl, hn⟩ := zJO hu
 rw [yXE hn]
 refine (yWj h2.at_ hI hn (by have := hI.chl hn; omega)).mono ?_
 rintro e w3 ⟨rfl, d', hL, habs⟩
 have e1 : uC (n : Int) = 0 := by rw [uC, if_pos hu]
 refine ⟨_, rfl, ?_⟩
 have LL := h2.dl.trans hL
 rw [← show d'.ptr = d.ptr by unfold zQq.ptr; rw [hL.ptr]]
 refine zXo LL fun w' hL' _ _ => ⟨?_, d', hL', by rw [habs, zZe, if_pos hu, zZa]⟩
 rw [e1, zYw, if_pos hu, zZa, zYW, zKJ]
end Go.Proofs.YtcihcbfcgjepfaaGreatDoor
