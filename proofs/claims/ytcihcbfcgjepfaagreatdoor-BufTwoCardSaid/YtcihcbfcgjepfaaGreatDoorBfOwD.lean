import Derived.Test.YtcihcbfcgjepfaaGreatDoorBfOwC
import Derived.Test.YtcihcbfcgjepfaaGreatDoorBfPrA
import Derived.Test.YtcihcbfcgjepfaaGreatDoorShEleven
/- Desks: what stays of a desk when parts of it are changed. No condition but those stated. -/
set_option maxRecDepth 100000
set_option linter.unusedVariables false
set_option linter.unusedSimpArgs false
namespace Go.Proofs.YtcihcbfcgjepfaaGreatDoor
open Go.Sh Go.RowKit
variable {w w' : World} {d d' : DLay} {val : Nat -> List Val} {mu : Int}
def usH (d : DLay) : List HRec := uH d 0 ++ (uH d 1 ++ (uH d 2 ++ uH d 3))
theorem allH_us (d : DLay) : allH d = d.rh ++ usH d := rfl
def othH (d : DLay) (u : Nat) : List HRec := d.rh ++ ((if u = 0 then [] else uH d 0) ++ ((if u = 1 then [] else uH d 1) ++ ((if u = 2 then [] else uH d 2) ++ (if u = 3 then [] else uH d 3))))
theorem perm_u (d : DLay) {u : Nat} (hu : u < 4) : (allH d).Perm (uH d u ++ othH d u) := by
  rcases (by omega : u = 0 ∨ u = 1 ∨ u = 2 ∨ u = 3) with rfl | rfl | rfl | rfl
  · simp only [othH, allH]
    exact List.perm_append_comm_assoc ..
  · simp only [othH, allH]
    refine List.Perm.trans (List.Perm.append_left _ ?_) (List.perm_append_comm_assoc ..)
    exact List.perm_append_comm_assoc ..
  · simp only [othH, allH]
    refine List.Perm.trans (List.Perm.append_left _ (List.Perm.trans (List.Perm.append_left _ ?_) (List.perm_append_comm_assoc ..))) (List.perm_append_comm_assoc ..)
    exact List.perm_append_comm_assoc ..
  · simp only [othH, allH]
    refine List.Perm.trans (List.Perm.append_left _ (List.Perm.trans (List.Perm.append_left _ (List.Perm.trans (List.Perm.append_left _ ?_) (List.perm_append_comm_assoc ..))) (List.perm_append_comm_assoc ..))) (List.perm_append_comm_assoc ..)
    simp only [if_true, List.append_nil, show (3 : Nat) ≠ 2 by omega, if_false]
    exact List.perm_append_comm
theorem vB_perm {a b : List HRec} (h : a.Perm b) : (vB a).Perm (vB b) := List.Perm.flatMap_right _ h
theorem nd_u {u : Nat} (hu : u < 4) : (vB (allH d)).Nodup ↔ (vB (uH d u ++ othH d u)).Nodup := (vB_perm (perm_u d hu)).nodup_iff
theorem mem_u {u : Nat} (hu : u < 4) {x : HRec} : x ∈ allH d ↔ x ∈ uH d u ∨ x ∈ othH d u := by rw [(perm_u d hu).mem_iff, List.mem_append]
theorem mem_one : ∀ {l : List HRec} {x y : HRec} {b : Nat}, (vB l).Nodup -> x ∈ l -> y ∈ l -> b ∈ blkOf x.s -> b ∈ blkOf y.s -> x = y
  | [], x, y, b, _, hx, _, _, _ => by cases hx
  | z :: l, x, y, b, hn, hx, hy, hbx, hby => by
    rw [vB_cons] at hn
    obtain ⟨_, n2, n3⟩ := List.nodup_append.1 hn
    rcases List.mem_cons.1 hx with ex | kx
    · rcases List.mem_cons.1 hy with ey | ky
      · rw [ex, ey]
      · exact absurd rfl (n3 b (by rw [← ex]; exact hbx) b (mem_vB ky hby))
    · rcases List.mem_cons.1 hy with ey | ky
      · exact absurd rfl (n3 b (by rw [← ey]; exact hby) b (mem_vB kx hbx))
      · exact mem_one n2 kx ky hbx hby
theorem BodyAt.setVal (h : BodyAt w d val) {x : HRec} (hx : x ∈ allH d) {a : Addr} (ha : x.s.a = some a) {l' : List Val} (hf : Fr (· = a.block) w w') (hrow : RowAt w' 28 3 x.s (l'.flatMap valV)) : BodyAt w' d (updV val a.block l') := by
  have hb : a.block ∈ blkOf x.s := by simp [blkOf, ha]
  have hV : d.o a.block = some .V := h.oV _ (mem_vB hx hb)
  have ne : ∀ {b : Nat} {κ : DKey}, d.o b = some κ -> κ ≠ .V -> ¬ b = a.block := fun {b κ} hb hk e => by rw [e, hV] at hb; exact hk (Option.some.inj hb).symm
  refine ⟨h.fl.fr hf fun b hb => ne (h.oF b hb) (by simp), h.rw_.fr hf fun b hb => ne (h.oR b hb) (by simp), fun u hu => (h.aw u hu).fr hf fun b hb => ne (h.oA u hu b hb) (by simp),
    fun e u hu => (h.mp e u hu).fr hf (ne (h.oC e u hu) (by simp)), fun e u hu => (h.ml e u hu).fr hf fun b hb => ne (h.oK e u hu b hb) (by simp), ?_, fun y hy => ?_, h.low, h.nd, h.oS, h.oL, h.oC, h.oK, h.oF, h.oR, h.oA, h.oV, fun b hb => Nat.lt_of_lt_of_le (h.lt b hb) hf.size⟩
  · obtain ⟨l, h1, h2⟩ := h.lm
    exact ⟨l, h1.fr hf (ne h.oL (by simp)), h2⟩
  · by_cases hyb : a.block ∈ blkOf y.s
    · obtain rfl := mem_one h.nd hx hy hb hyb
      rw [hv_same ha rfl]; exact hrow
    · rw [hv_other hyb]
      exact (h.vr y hy).fr hf fun b hb' e => hyb (by rw [← show b = a.block from e]; exact hb')
def DLay.ad (d : DLay) (b : Nat) : DLay := { d with o := fun c => if c = b then some .V else d.o c }
theorem BodyAt.ad (h : BodyAt w d val) {b : Nat} (ho : d.o b = none) (hb : b < w.heap.size) (x : List Val) : BodyAt w (d.ad b) (updV val b x) := by
  have up : ∀ {c : Nat} {κ : DKey}, d.o c = some κ -> (d.ad b).o c = some κ := fun {c κ} hc => by
    show (if c = b then _ else _) = _
    rw [if_neg fun e => by rw [e, ho] at hc; cases hc]; exact hc
  refine ⟨h.fl, h.rw_, h.aw, h.mp, h.ml, h.lm, fun y hy => ?_, h.low, h.nd, up h.oS, up h.oL, fun e u hu => up (h.oC e u hu), fun e u hu c hc => up (h.oK e u hu c hc), fun c hc => up (h.oF c hc), fun c hc => up (h.oR c hc), fun u hu c hc => up (h.oA u hu c hc), fun c hc => up (h.oV c hc), fun c hc => ?_⟩
  · have hn : b ∉ blkOf y.s := fun e => by have := h.oV b (mem_vB hy e); rw [ho] at this; cases this
    rw [hv_other hn]; exact h.vr y hy
  · by_cases e : c = b
    · rw [e]; exact hb
    · have : (if c = b then some DKey.V else d.o c) ≠ none := hc
      rw [if_neg e] at this; exact h.lt c this
theorem BodyAt.free (h : BodyAt w d val) {b : Nat} (ho : d.o b = some .V) (hn : b ∉ vB (allH d)) (hf : Fr (· = b) w w') (x : List Val) : BodyAt w' d (updV val b x) := by
  have ne : ∀ {c : Nat} {κ : DKey}, d.o c = some κ -> κ ≠ .V -> ¬ c = b := fun {c κ} hc hk e => by rw [e, ho] at hc; exact hk (Option.some.inj hc).symm
  refine ⟨h.fl.fr hf fun b hb => ne (h.oF b hb) (by simp), h.rw_.fr hf fun b hb => ne (h.oR b hb) (by simp), fun u hu => (h.aw u hu).fr hf fun b hb => ne (h.oA u hu b hb) (by simp),
    fun e u hu => (h.mp e u hu).fr hf (ne (h.oC e u hu) (by simp)), fun e u hu => (h.ml e u hu).fr hf fun b hb => ne (h.oK e u hu b hb) (by simp), ?_, fun y hy => ?_, h.low, h.nd, h.oS, h.oL, h.oC, h.oK, h.oF, h.oR, h.oA, h.oV, fun b hb => Nat.lt_of_lt_of_le (h.lt b hb) hf.size⟩
  · obtain ⟨l, h1, h2⟩ := h.lm
    exact ⟨l, h1.fr hf (ne h.oL (by simp)), h2⟩
  · have hyb : b ∉ blkOf y.s := fun e => hn (mem_vB hy e)
    rw [hv_other hyb]
    exact (h.vr y hy).fr hf fun c hc e => hyb (by rw [← show c = b from e]; exact hc)
theorem abs_free {b : Nat} {x : List Val} (hl : Low d) (hn : b ∉ vB (allH d)) : absD d (updV val b x) = absD d val := by
  have hr : b ∉ vB d.rh := fun e => hn (by rw [allH_us, vB_append]; exact List.mem_append_left _ e)
  have hu : ∀ v, b ∉ vB (uH d v) := fun v e => by
    by_cases hv : v < 4
    · exact hn ((vB_perm (perm_u d hv)).mem_iff.2 (by rw [vB_append]; exact List.mem_append_left _ e))
    · rw [uH_low hl (by omega)] at e; simp [vB] at e
  simp only [absD, map_other hr, Dsk.mk.injEq, true_and, and_true]
  funext v
  exact absU_other (hu v)
theorem abs_ad {b : Nat} {x : List Val} (h : BodyAt w d val) (ho : d.o b = none) : absD (d.ad b) (updV val b x) = absD d val :=
  abs_free h.low fun e => by have := h.oV b e; rw [ho] at this; cases this
theorem BodyAt.lks (h : BodyAt w d val) {lk' : Int -> Option Int} {l : List (Int × Int)} (hf : Fr (· = d.L) w w') (hl : MapAt w' intK intK d.L l) (he : ∀ k, AL.get l k = (lk' k).map fun v => if d.sd then v + 1 else v) : BodyAt w' { d with lk := lk' } val := by
  have ne : ∀ {c : Nat} {κ : DKey}, d.o c = some κ -> κ ≠ .L -> ¬ c = d.L := fun {c κ} hc hk e => by rw [e, h.oL] at hc; exact hk (Option.some.inj hc).symm
  exact ⟨h.fl.fr hf fun b hb => ne (h.oF b hb) (by simp), h.rw_.fr hf fun b hb => ne (h.oR b hb) (by simp), fun u hu => (h.aw u hu).fr hf fun b hb => ne (h.oA u hu b hb) (by simp),
    fun e u hu => (h.mp e u hu).fr hf (ne (h.oC e u hu) (by simp)), fun e u hu => (h.ml e u hu).fr hf fun b hb => ne (h.oK e u hu b hb) (by simp), ⟨l, hl, he⟩, fun y hy => (h.vr y hy).fr hf fun b hb => ne (h.oV b (mem_vB hy hb)) (by simp), h.low, h.nd, h.oS, h.oL, h.oC, h.oK, h.oF, h.oR, h.oA, h.oV, fun b hb => Nat.lt_of_lt_of_le (h.lt b hb) hf.size⟩
def DLay.gen (d : DLay) (u : Nat) (o' : Nat -> Option DKey) (rs' : SV) (rh' : List HRec) (as' : SV) (ah' : List HRec) (cs' : SV) (ch' : List Chg) (C' : Nat) : DLay :=
  { d with o := o', rs := rs', rh := rh', asv := fun v => if v = u then as' else d.asv v, ah := fun v => if v = u then ah' else d.ah v, cs := fun v => if v = u then cs' else d.cs v, ch := fun v => if v = u then ch' else d.ch v, C := fun v => if v = u then C' else d.C v }
section
variable {u : Nat} {o' : Nat -> Option DKey} {rs' as' cs' : SV} {rh' ah' : List HRec} {ch' : List Chg} {C' : Nat}
theorem gen_uH : uH (d.gen u o' rs' rh' as' ah' cs' ch' C') u = chH ch' ++ ah' := by simp [uH, DLay.gen]
theorem gen_uH_ne {v : Nat} (h : v ≠ u) : uH (d.gen u o' rs' rh' as' ah' cs' ch' C') v = uH d v := by simp [uH, DLay.gen, h]
theorem gen_oth : othH (d.gen u o' rs' rh' as' ah' cs' ch' C') u = rh' ++ (othH d u).drop d.rh.length := by
  have e : (othH d u).drop d.rh.length = ((if u = 0 then [] else uH d 0) ++ ((if u = 1 then [] else uH d 1) ++ ((if u = 2 then [] else uH d 2) ++ (if u = 3 then [] else uH d 3)))) := by simp [othH]
  have k : ∀ v : Nat, (if u = v then [] else uH (d.gen u o' rs' rh' as' ah' cs' ch' C') v) = (if u = v then [] else uH d v) := fun v => by
    by_cases h : u = v
    · rw [if_pos h, if_pos h]
    · rw [if_neg h, if_neg h, gen_uH_ne (Ne.symm h)]
  rw [e]
  simp only [othH, k]
  rfl
def genH (d : DLay) (u : Nat) (rh' ah' : List HRec) (ch' : List Chg) : List HRec := (chH ch' ++ ah') ++ (rh' ++ (othH d u).drop d.rh.length)
theorem gen_perm (hu : u < 4) : (allH (d.gen u o' rs' rh' as' ah' cs' ch' C')).Perm (genH d u rh' ah' ch') := by
  have := perm_u (d.gen u o' rs' rh' as' ah' cs' ch' C') hu
  rwa [gen_uH, gen_oth] at this
theorem oth_mem {x : HRec} (hu : u < 4) (h : x ∈ (othH d u).drop d.rh.length) : x ∈ allH d := (mem_u hu).2 (.inr (List.mem_of_mem_drop h))
theorem BodyAt.genL (h : BodyAt w d val) (hu : u < 4) {B : Nat -> Prop} (hf : Fr B w w')
    {lk' : Int -> Option Int} (hK : ∃ l, MapAt w' intK intK d.L l /\ ∀ k, AL.get l k = (lk' k).map fun v => if d.sd then v + 1 else v) (oL : o' d.L = some .L)
    (keep : ∀ b κ, d.o b = some κ -> κ ≠ .L -> κ ≠ .S -> κ ≠ .R -> κ ≠ .A u -> κ ≠ .C u -> ¬ B b /\ o' b = some κ) (oS : o' d.S = some .S)
    (hR : RowAt w' 77 2 rs' (rh'.flatMap recC)) (oR : ∀ b ∈ blkOf rs', o' b = some .R) (hA : RowAt w' 77 2 as' (ah'.flatMap recC)) (oA : ∀ b ∈ blkOf as', o' b = some (.A u))
    (hM : d.sd = false -> MapAt w' intK chV C' ch' /\ o' C' = some (.C u)) (hL : d.sd = true -> RowAt w' 136 5 cs' (ch'.flatMap chC) /\ ∀ b ∈ blkOf cs', o' b = some (.C u))
    (new : ∀ x ∈ chH ch' ++ ah' ++ rh', (∃ y ∈ allH d, x.s = y.s) ∨ (RowAt w' 28 3 x.s ((hv val x).flatMap valV) /\ ∀ b ∈ blkOf x.s, o' b = some .V)) (nd : (vB (genH d u rh' ah' ch')).Nodup) (lt : ∀ b, o' b ≠ none -> b < w'.heap.size) :
    BodyAt w' { d.gen u o' rs' rh' as' ah' cs' ch' C' with lk := lk' } val := by
  have gp : (allH (d.gen u o' rs' rh' as' ah' cs' ch' C')).Perm (genH d u rh' ah' ch') := gen_perm hu
  have kp : ∀ {b : Nat} {κ : DKey}, d.o b = some κ -> κ ≠ .S -> κ ≠ .R -> κ ≠ .A u -> κ ≠ .C u -> κ ≠ .L -> ¬ B b := fun {b κ} a1 a2 a3 a4 a5 a6 => (keep b κ a1 a6 a2 a3 a4 a5).1
  have ko : ∀ {b : Nat} {κ : DKey}, d.o b = some κ -> κ ≠ .S -> κ ≠ .R -> κ ≠ .A u -> κ ≠ .C u -> κ ≠ .L -> o' b = some κ := fun {b κ} a1 a2 a3 a4 a5 a6 => (keep b κ a1 a6 a2 a3 a4 a5).2
  have cls : ∀ x ∈ genH d u rh' ah' ch', RowAt w' 28 3 x.s ((hv val x).flatMap valV) /\ ∀ b ∈ blkOf x.s, o' b = some .V := fun x hx => by
    have old : ∀ y ∈ allH d, RowAt w' 28 3 y.s ((hv val y).flatMap valV) /\ ∀ b ∈ blkOf y.s, o' b = some .V := fun y hy =>
      ⟨(h.vr y hy).fr hf fun b hb => kp (h.oV b (mem_vB hy hb)) (by simp) (by simp) (by simp) (by simp) (by simp), fun b hb => ko (h.oV b (mem_vB hy hb)) (by simp) (by simp) (by simp) (by simp) (by simp)⟩
    have hx' : x ∈ chH ch' ++ ah' ++ rh' ∨ x ∈ (othH d u).drop d.rh.length := by
      simp only [genH, List.mem_append] at hx ⊢
      rcases hx with (hx | hx) | hx | hx
      · exact .inl (.inl (.inl hx))
      · exact .inl (.inl (.inr hx))
      · exact .inl (.inr hx)
      · exact .inr hx
    rcases hx' with hx | hx
    · rcases new x hx with ⟨y, hy, hs⟩ | hx
      · have e : hv val x = hv val y := by rw [hv, hv, hs]
        rw [e, hs]
        exact old y hy
      · exact hx
    · exact old x (oth_mem hu hx)
  refine ⟨h.fl.fr hf fun b hb => kp (h.oF b hb) (by simp) (by simp) (by simp) (by simp) (by simp), hR, fun v hv => ?_, fun e v hv => ?_, fun e v hv => ?_, ?_, fun x hx => (cls x (gp.mem_iff.1 hx)).1, fun v hv => ?_, ((vB_perm gp).nodup_iff).2 nd, oS, oL, fun e v hv => ?_, fun e v hv b hb => ?_, fun b hb => ko (h.oF b hb) (by simp) (by simp) (by simp) (by simp) (by simp), oR, fun v hv b hb => ?_, fun b hb => ?_, lt⟩
  · by_cases e : v = u
    · subst e; simpa [DLay.gen] using hA
    · simp only [DLay.gen, if_neg e]
      exact (h.aw v hv).fr hf fun b hb => kp (h.oA v hv b hb) (by simp) (by simp) (by simp [e]) (by simp) (by simp)
  · by_cases e' : v = u
    · subst e'; simpa [DLay.gen] using (hM e).1
    · simp only [DLay.gen, if_neg e']
      exact (h.mp e v hv).fr hf (kp (h.oC e v hv) (by simp) (by simp) (by simp) (by simp [e']) (by simp))
  · by_cases e' : v = u
    · subst e'; simpa [DLay.gen] using (hL e).1
    · simp only [DLay.gen, if_neg e']
      exact (h.ml e v hv).fr hf fun b hb => kp (h.oK e v hv b hb) (by simp) (by simp) (by simp) (by simp [e']) (by simp)
  · exact hK
  · have e : v ≠ u := by omega
    have := h.low v hv
    simpa [DLay.gen, e] using this
  · by_cases e' : v = u
    · subst e'; simpa [DLay.gen] using (hM e).2
    · simp only [DLay.gen, if_neg e']
      exact ko (h.oC e v hv) (by simp) (by simp) (by simp) (by simp [e']) (by simp)
  · by_cases e' : v = u
    · subst e'
      exact (hL e).2 b (by simpa [DLay.gen] using hb)
    · simp only [DLay.gen, if_neg e'] at hb
      exact ko (h.oK e v hv b hb) (by simp) (by simp) (by simp) (by simp [e']) (by simp)
  · by_cases e : v = u
    · subst e
      exact oA b (by simpa [DLay.gen] using hb)
    · simp only [DLay.gen, if_neg e] at hb
      exact ko (h.oA v hv b hb) (by simp) (by simp) (by simp [e]) (by simp) (by simp)
  · obtain ⟨x, hx, hb⟩ := List.mem_flatMap.1 hb
    exact (cls x (gp.mem_iff.1 hx)).2 b hb
theorem BodyAt.gen (h : BodyAt w d val) (hu : u < 4) {B : Nat -> Prop} (hf : Fr B w w')
    (keep : ∀ b κ, d.o b = some κ -> κ ≠ .S -> κ ≠ .R -> κ ≠ .A u -> κ ≠ .C u -> ¬ B b /\ o' b = some κ) (oS : o' d.S = some .S)
    (hR : RowAt w' 77 2 rs' (rh'.flatMap recC)) (oR : ∀ b ∈ blkOf rs', o' b = some .R) (hA : RowAt w' 77 2 as' (ah'.flatMap recC)) (oA : ∀ b ∈ blkOf as', o' b = some (.A u))
    (hM : d.sd = false -> MapAt w' intK chV C' ch' /\ o' C' = some (.C u)) (hL : d.sd = true -> RowAt w' 136 5 cs' (ch'.flatMap chC) /\ ∀ b ∈ blkOf cs', o' b = some (.C u))
    (new : ∀ x ∈ chH ch' ++ ah' ++ rh', (∃ y ∈ allH d, x.s = y.s) ∨ (RowAt w' 28 3 x.s ((hv val x).flatMap valV) /\ ∀ b ∈ blkOf x.s, o' b = some .V)) (nd : (vB (genH d u rh' ah' ch')).Nodup) (lt : ∀ b, o' b ≠ none -> b < w'.heap.size) :
    BodyAt w' (d.gen u o' rs' rh' as' ah' cs' ch' C') val := by
  obtain ⟨l, h1, h2⟩ := h.lm
  have kL := keep d.L .L h.oL (by simp) (by simp) (by simp) (by simp)
  exact h.genL hu hf (lk' := d.lk) ⟨l, h1.fr hf kL.1, h2⟩ kL.2 (fun b κ a1 _ a2 a3 a4 a5 => keep b κ a1 a2 a3 a4 a5) oS hR oR hA oA hM hL new nd lt
theorem abs_gen : absD (d.gen u o' rs' rh' as' ah' cs' ch' C') val = { (absD d val) with recs := rh'.map (toR val) }.setU u { (absD d val).us u with ch := ch'.map (toC val), ap := ah'.map (toR val) } := by
  simp only [absD, Dsk.setU, Dsk.mk.injEq]
  refine ⟨rfl, rfl, rfl, ?_, rfl⟩
  funext v
  by_cases e : v = u
  · subst e; simp [absU, DLay.gen]
  · simp [absU, DLay.gen, e]
end
end Go.Proofs.YtcihcbfcgjepfaaGreatDoor

/- Desks: the lock of a record; what Set and Mark do with the record at which a user is. No condition but those stated. -/
set_option maxRecDepth 100000
set_option linter.unusedVariables false
set_option linter.unusedSimpArgs false
namespace Go.Proofs.YtcihcbfcgjepfaaGreatDoor
open Go.Sh Go.RowKit
variable {w w' : World} {d d' : DLay} {val : Nat -> List Val} {mu : Int}
theorem DeskAt.lks (h : DeskAt w d mu val) {lk' : Int -> Option Int} {l : List (Int × Int)} (hf : Fr (· = d.L) w w') (hl : MapAt w' intK intK d.L l) (he : ∀ k, AL.get l k = lk' k) : DeskAt w' { d with lk := lk' } mu val :=
  ⟨hf.blk h.st fun e => (by
    have := h.bd.oS
    rw [show d.S = d.L from e, h.bd.oL] at this
    cases this), h.bd.lks hf hl fun k => (by rw [he, h.sd]; cases lk' k <;> rfl), h.sd⟩
theorem abs_lk (lk' : Int -> Option Int) : absD { d with lk := lk' } val = { absD d val with lk := lk' } := rfl
theorem lock_c (h : DeskAt w d 1 val) {u : Nat} (hu : u < 4) :
    Calls Tryz.prog 113 #[d.ptr, .int .i64 (u : Int), .pointer (some (uA d u)), .int .i64 (d.at_ u)] w fun e w' => e = .returned (.int .i64 (lockC u (absD d val))) /\
      ∃ lk', DeskAt w' { d with lk := lk' } 1 val /\ Fr (· = d.L) w w' /\ w'.heap.size = w.heap.size /\ { absD d val with lk := lk' } = if lockC u (absD d val) = 0 then lockS u (absD d val) else absD d val := by
  have eM : ((absD d val).us u).mode = d.mode u := rfl
  have eA : ((absD d val).us u).at_ = d.at_ u := rfl
  have eK : (absD d val).lk = d.lk := rfl
  have stay : ∀ n : Int, lockC u (absD d val) = n -> (n = 0 -> lockS u (absD d val) = absD d val) -> Ending.returned (.int .i64 n) = .returned (.int .i64 (lockC u (absD d val))) /\
      ∃ lk', DeskAt w { d with lk := lk' } 1 val /\ Fr (· = d.L) w w /\ w.heap.size = w.heap.size /\ { absD d val with lk := lk' } = if lockC u (absD d val) = 0 then lockS u (absD d val) else absD d val := fun n hn h0 => by
    refine ⟨by rw [hn], d.lk, h, Fr.refl _ _, rfl, ?_⟩
    rw [hn]
    split
    · rw [h0 ‹_›]; rfl
    · rfl
  refine F113_calls _ _ _ _ w _ ⟨_, h.uMode hu, Br.of (fun c => ?_) (fun c => ⟨_, h.uMode hu, Br.of (fun c1 => ?_) (fun c1 => Br.of (fun c2 => ?_) (fun c2 => ?_))⟩)⟩
  · have c := btrue c
    exact stay 0 (by simp only [lockC, eM, eA]; rw [if_pos (.inl c)]) fun _ => by simp only [lockS, eM, eA]; rw [if_pos (.inl c)]
  · have c1 := btrue c1
    exact stay 0 (by simp only [lockC, eM, eA]; rw [if_pos (.inr (.inl c1))]) fun _ => by simp only [lockS, eM, eA]; rw [if_pos (.inr (.inl c1))]
  · have c2 := dtrue c2
    exact stay 0 (by simp only [lockC, eM, eA]; rw [if_pos (.inr (.inr c2))]) fun _ => by simp only [lockS, eM, eA]; rw [if_pos (.inr (.inr (.inl c2)))]
  have c := bfalse c
  have c1 := bfalse c1
  have c2 := dfalse c2
  have eC : lockC u (absD d val) = match d.lk (d.at_ u) with | some v => if v = (u : Int) then 0 else 12 | none => 0 := by
    simp only [lockC, eM, eA, eK]; rw [if_neg (by omega)]; rfl
  obtain ⟨l, hl, hk⟩ := h.lm
  refine ⟨some d.L, h.locks, _, _, w, lk_look hl _, ?_⟩
  have take : lockC u (absD d val) = 0 -> ∃ n45 : Int, w.cell? (uA d u) = some (.int .i64 n45) /\ Br (n45 != 0) (ptrE (some ⟨d.S, 0, none⟩) fun a3 => ∃ m50 : Option Nat, w.cell? (a3.add 21) = some (.map m50) /\ doE Tryz.prog (Instr.mapUpdate 80 (.map m50) (.int .i64 (d.at_ u)) (.int .i64 (u : Int))) w fun w4 => runD Tryz.prog [] w4 fun w5 =>
      Ending.returned (.int .i64 0) = .returned (.int .i64 (lockC u (absD d val))) /\ ∃ lk', DeskAt w5 { d with lk := lk' } 1 val /\ Fr (· = d.L) w w5 /\ w5.heap.size = w.heap.size /\ { absD d val with lk := lk' } = if lockC u (absD d val) = 0 then lockS u (absD d val) else absD d val)
      (runD Tryz.prog [] w fun w6 => Ending.returned (.int .i64 0) = .returned (.int .i64 (lockC u (absD d val))) /\ ∃ lk', DeskAt w6 { d with lk := lk' } 1 val /\ Fr (· = d.L) w w6 /\ w6.heap.size = w.heap.size /\ { absD d val with lk := lk' } = if lockC u (absD d val) = 0 then lockS u (absD d val) else absD d val) := fun h0 => by
    refine ⟨_, h.uMode hu, Br.of (fun c3 => ?_) (fun c3 => ?_)⟩
    · have c3 := bntrue c3
      obtain ⟨w4, hrun, hm4, hf4, hs4⟩ := hl.upd (P := Tryz.prog) keysK bu80 (d.at_ u) (u : Int)
      refine ⟨some d.L, h.locks, w4, hrun, by rw [h0], fun k => if k = d.at_ u then some (u : Int) else d.lk k, h.lks hf4 hm4 fun k => ?_, hf4, hs4, ?_⟩
      · rw [AL.get_put]
        by_cases e : d.at_ u = k
        · rw [if_pos e, if_pos e.symm]
        · rw [if_neg e, if_neg (Ne.symm e), hk]
      · rw [if_pos h0]
        simp only [lockS, eM, eA, eK]; rw [if_neg (by omega)]
    · have c3 := bnfalse c3
      exact stay 0 h0 fun _ => by simp only [lockS, eM, eA]; rw [if_pos (.inr (.inr (.inr c3)))]
  refine Br.of (fun c3 => ?_) (fun c3 => ?_)
  · obtain ⟨v, hv⟩ := Option.isSome_iff_exists.1 c3
    have hv' := hv
    rw [hk] at hv'
    rw [hv'] at eC
    rw [hv]
    refine Br.of (fun c4 => ?_) (fun c4 => ?_)
    · have c4 : v ≠ (u : Int) := bntrue c4
      exact stay 12 (by rw [eC]; simp [c4]) fun e => by cases e
    · have c4 : v = (u : Int) := bnfalse c4
      exact take (by rw [eC]; simp [c4])
  · have hv : AL.get l (d.at_ u) = none := by simpa using c3
    rw [hk] at hv
    rw [hv] at eC
    exact take eC
inductive Do1
  | set (i : Nat) (v : Val)
  | mark (g : Bool)
def Do1.f : Do1 -> Rec -> Rec
  | .set i v => setVal i v
  | .mark g => setMark g
def CapOk (A : Do1) (f : Nat) (cap : Array Value) (w : World) (D : Nat -> Prop) : Prop := match A with
  | .set i v => f = 54 /\ ∃ r s : Nat, cap = #[.pointer (some ⟨r, 0, none⟩), .pointer (some ⟨s, 0, none⟩)] /\ w.heap[r]? = some (.cells #[.int .i64 v.kind, .int .i64 v.n, .string v.s] 28) /\ w.heap[s]? = some (.cells #[.int .i64 (i : Int)] 3) /\ ¬ D r /\ ¬ D s
  | .mark g => f = 57 /\ ∃ r : Nat, cap = #[.pointer (some ⟨r, 0, none⟩)] /\ w.heap[r]? = some (.cells #[.bool g] 4) /\ ¬ D r
theorem CapOk.fr {A : Do1} {f : Nat} {cap : Array Value} {D B : Nat -> Prop} (h : CapOk A f cap w D) (hf : Fr B w w') (hb : ∀ b, b < w.heap.size -> B b -> D b) : CapOk A f cap w' D := by
  cases A with
  | set i v =>
    obtain ⟨h1, r, s, h2, h3, h4, h5, h6⟩ := h
    exact ⟨h1, r, s, h2, hf.blk h3 fun e => h5 (hb _ (blk_lt h3) e), hf.blk h4 fun e => h6 (hb _ (blk_lt h4) e), h5, h6⟩
  | mark g =>
    obtain ⟨h1, r, h2, h3, h5⟩ := h
    exact ⟨h1, r, h2, hf.blk h3 fun e => h5 (hb _ (blk_lt h3) e), h5⟩
theorem CapOk.body {A : Do1} {f : Nat} {cap : Array Value} {D : Nat -> Prop} (h : CapOk A f cap w D) : hasBody Tryz.prog f = true := by
  cases A with
  | set i v => obtain ⟨rfl, _⟩ := h; kernel_rfl
  | mark g => obtain ⟨rfl, _⟩ := h; kernel_rfl
theorem set1_c {a : Addr} {s : SV} {l : List Val} {r7 r12 i : Nat} {v : Val} (hs : w.cell? (a.add 1) = some (.slice s.a s.len s.cap)) (hrow : RowAt w 28 3 s (l.flatMap valV)) (hi : i < l.length)
    (h7 : w.heap[r7]? = some (.cells #[.int .i64 v.kind, .int .i64 v.n, .string v.s] 28)) (h12 : w.heap[r12]? = some (.cells #[.int .i64 (i : Int)] 3)) :
    Calls Tryz.prog 54 #[.pointer (some a), .pointer (some ⟨r7, 0, none⟩), .pointer (some ⟨r12, 0, none⟩)] w fun e w' => e = .returned (.tuple #[]) /\ RowAt w' 28 3 s ((l.set i v).flatMap valV) /\ Fr (· ∈ blkOf s) w w' /\ w'.heap.size = w.heap.size := by
  refine F54_calls _ _ _ w _ (dwE_intro fun w1 hp1 hh1 => ?_)
  have hz : w1.heap.size = w.heap.size := by rw [hh1]
  have hrow1 := hrow.pu hp1
  obtain ⟨a5, ha5, hst⟩ := hrow1.stElem (P := Tryz.prog) (t := 28) valV_len (by decide) hi v bs28.symm rfl (K := fun w' => Ending.returned (.tuple #[]) = .returned (.tuple #[]) /\ RowAt w' 28 3 s ((l.set i v).flatMap valV) /\ Fr (· ∈ blkOf s) w w' /\ w'.heap.size = w.heap.size) fun w' g1 g2 g3 => ⟨rfl, g1, (Fr.pu hp1 : Fr (· ∈ blkOf s) w w1).trans g2 fun i hi _ => hi, by rw [g3, hz]⟩
  have hl := hrow.len valV_len (by decide)
  refine ⟨s, hp1.cell hs, (i : Int), cl0 (hp1.blk h12), _, cl (hp1.blk h7) 0, _, cl (hp1.blk h7) 1, _, cl (hp1.blk h7) 2, a5, ha5, by omega, by omega, ?_⟩
  rw [Int.toNat_natCast]
  exact hst
theorem mark1_c {a : Addr} {r : Nat} {g : Bool} {R : Rt} (hr : w.heap[r]? = some (.cells #[.bool g] 4)) (h : st1 a (.bool g) w fun w' => R (.returned (.tuple #[])) w') : Calls Tryz.prog 57 #[.pointer (some a), .pointer (some ⟨r, 0, none⟩)] w R :=
  F57_calls _ _ w _ ⟨g, cl0 hr, h⟩
theorem modify_congr {α : Type} {f g : α -> α} : ∀ {l : List α} {i : Nat} {x : α}, l[i]? = some x -> f x = g x -> l.modify i f = l.modify i g
  | [], i, x, h, _ => by simp at h
  | y :: l, 0, x, h, e => by simp at h; subst h; simp [e]
  | y :: l, i + 1, x, h, e => by simp only [List.modify_succ_cons]; rw [modify_congr (by simpa using h) e]
theorem set_modify {α : Type} {f : α -> α} : ∀ {l : List α} {i : Nat} {x : α}, l[i]? = some x -> l.set i (f x) = l.modify i f
  | [], i, x, h => by simp at h
  | y :: l, 0, x, h => by simp at h; subst h; rfl
  | y :: l, i + 1, x, h => by simp only [List.modify_succ_cons, List.set_cons_succ]; rw [set_modify (by simpa using h)]
theorem vB_set : ∀ {l : List HRec} {i : Nat} {x y : HRec}, l[i]? = some x -> x.s = y.s -> vB (l.set i y) = vB l
  | [], i, x, y, h, _ => by simp at h
  | z :: l, 0, x, y, h, e => by simp at h; subst h; simp [vB, e]
  | z :: l, i + 1, x, y, h, e => by
    rw [List.set_cons_succ, vB_cons, vB_cons, vB_set (by simpa using h) e]
theorem deskC_gen {u : Nat} {o' : Nat -> Option DKey} {rh' ah' : List HRec} {cs' : SV} {ch' : List Chg} : deskC mu (d.gen u o' d.rs rh' (d.asv u) ah' cs' ch' (d.C u)) = deskC mu d := by
  have e1 : (fun v => if v = u then d.asv u else d.asv v) = d.asv := by funext v; by_cases e : v = u <;> simp [e]
  have e2 : (fun v => if v = u then d.C u else d.C v) = d.C := by funext v; by_cases e : v = u <;> simp [e]
  have e3 : (d.gen u o' d.rs rh' (d.asv u) ah' cs' ch' (d.C u)).asv = d.asv := e1
  have e4 : (d.gen u o' d.rs rh' (d.asv u) ah' cs' ch' (d.C u)).C = d.C := e2
  simp only [deskC, e3, e4]
  rfl
theorem DeskAt.setVal (h : DeskAt w d mu val) {x : HRec} (hx : x ∈ allH d) {a : Addr} (ha : x.s.a = some a) {l' : List Val} (hf : Fr (· ∈ blkOf x.s) w w') (hrow : RowAt w' 28 3 x.s (l'.flatMap valV)) : DeskAt w' d mu (updV val a.block l') := by
  have hb : a.block ∈ blkOf x.s := by simp [blkOf, ha]
  have hV : d.o a.block = some .V := h.bd.oV _ (mem_vB hx hb)
  have hf' : Fr (· = a.block) w w' := hf.mono fun i hi _ => by simpa [blkOf, ha] using hi
  exact ⟨hf'.blk h.st fun e => (by rw [← show d.S = a.block from e, h.bd.oS] at hV; cases hV), h.bd.setVal hx ha hf' hrow, h.sd⟩
theorem row_some {s : SV} {l : List Val} {i : Nat} (h : RowAt w 28 3 s (l.flatMap valV)) (hi : i < l.length) : ∃ a, s.a = some a := by
  obtain ⟨v, hv⟩ := at_k hi
  obtain ⟨a, ha, _⟩ := h.elem valV_len hv (o := 0) rfl
  exact ⟨a, ha⟩
abbrev Own (d : DLay) : Nat -> Prop := fun b => d.o b ≠ none
theorem do_ap (h : DeskAt w d 1 val) {u : Nat} (hu : u < 4) {A : Do1} {f : Nat} {cap : Array Value} (hc : CapOk A f cap w (Own d)) {i : Nat} {x : HRec} (hx : (d.ah u)[i]? = some x) (hA : ∀ j v, A = .set j v -> j < (hv val x).length) {a : Addr} (ha : (d.asv u).a = some a) :
    Calls Tryz.prog f (([.pointer (some (a.add (i * 2)))] : List Value) ++ cap.toList).toArray w fun e w' => e = .returned (.tuple #[]) /\ ∃ d' val', DeskAt w' d' 1 val' /\ Fr (Own d) w w' /\ d'.o = d.o /\ d'.S = d.S /\
      absD d' val' = (absD d val).setU u { (absD d val).us u with ap := ((absD d val).us u).ap.modify i A.f } := by
  have hm : x ∈ allH d := mem_ah hu (List.mem_of_getElem? hx)
  have hap : ((absD d val).us u).ap[i]? = some (toR val x) := by show ((d.ah u).map (toR val))[i]? = _; rw [List.getElem?_map, hx]; rfl
  cases A with
  | set j v =>
    obtain ⟨rfl, r, s, rfl, h3, h4, _, _⟩ := hc
    obtain ⟨a1, ha1, _, hcl⟩ := (h.bd.aw u hu).elem recC_len hx (o := 1) (v := .slice x.s.a x.s.len x.s.cap) rfl
    rw [ha] at ha1; cases ha1
    have hj := hA j v rfl
    obtain ⟨b, hb⟩ := row_some (h.bd.vr x hm) hj
    show Calls Tryz.prog 54 #[.pointer (some (a.add (i * 2))), .pointer (some ⟨r, 0, none⟩), .pointer (some ⟨s, 0, none⟩)] w _
    refine Calls.mono (set1_c hcl (h.bd.vr x hm) hj h3 h4) ?_
    rintro e w1 ⟨rfl, hr1, hf1, hs1⟩
    refine ⟨rfl, d, _, h.setVal hm hb hf1 hr1, hf1.mono fun c hc _ => by rw [Own, h.bd.oV c (mem_vB hm hc)]; simp, rfl, rfl, ?_⟩
    rw [abs_upd_ap h.bd.nd h.bd.low hu hx hb]
    rw [modify_congr (f := fun r => { r with v := (hv val x).set j v }) (g := (Do1.set j v).f) hap rfl]
  | mark g =>
    obtain ⟨rfl, r, rfl, h3, _⟩ := hc
    have hi : i < (d.ah u).length := (List.getElem?_eq_some_iff.1 hx).1
    show Calls Tryz.prog 57 #[.pointer (some (a.add (i * 2))), .pointer (some ⟨r, 0, none⟩)] w _
    refine mark1_c h3 ?_
    obtain ⟨a1, ha1, hst⟩ := (h.bd.aw u hu).stField (i := i) (o := 0) recC_len hi (by decide) { x with g := g } (.bool g) (fun y hy => by rw [hx] at hy; cases hy; rfl) (K := fun w1 => Ending.returned (.tuple #[]) = .returned (.tuple #[]) /\ ∃ d' val', DeskAt w1 d' 1 val' /\ Fr (Own d) w w1 /\ d'.o = d.o /\ d'.S = d.S /\
      absD d' val' = (absD d val).setU u { (absD d val).us u with ap := ((absD d val).us u).ap.modify i (Do1.mark g).f }) fun w1 hr1 hf1 hs1 => by
      have own : ∀ b ∈ blkOf (d.asv u), d.o b = some (.A u) := h.bd.oA u hu
      have hbd : BodyAt w1 (d.gen u d.o d.rs d.rh (d.asv u) ((d.ah u).set i { x with g := g }) (d.cs u) (d.ch u) (d.C u)) val := by
        have ne : ∀ {b : Nat} {κ : DKey}, d.o b = some κ -> κ ≠ .A u -> ¬ b ∈ blkOf (d.asv u) := fun {b κ} hb hk e => by rw [own b e] at hb; exact hk (Option.some.inj hb).symm
        refine h.bd.gen hu hf1 (fun b κ hb _ _ hk _ => ⟨ne hb hk, hb⟩) h.bd.oS (h.bd.rw_.fr hf1 fun b hb => ne (h.bd.oR b hb) (by simp)) h.bd.oR hr1 own (fun e => ⟨(h.bd.mp e u hu).fr hf1 (ne (h.bd.oC e u hu) (by simp)), h.bd.oC e u hu⟩) (fun e => ⟨(h.bd.ml e u hu).fr hf1 fun b hb => ne (h.bd.oK e u hu b hb) (by simp), h.bd.oK e u hu⟩) (fun y hy => ?_) ?_ (fun b hb => Nat.lt_of_lt_of_le (h.bd.lt b hb) hf1.size)
        · left
          simp only [List.mem_append] at hy
          rcases hy with (hy | hy) | hy
          · exact ⟨y, mem_uH hu (List.mem_append_left _ hy), rfl⟩
          · rcases List.mem_or_eq_of_mem_set hy with hy | rfl
            · exact ⟨y, mem_ah hu hy, rfl⟩
            · exact ⟨x, hm, rfl⟩
          · exact ⟨y, mem_rh hy, rfl⟩
        · have hnd := (nd_u hu).1 h.bd.nd
          have e : othH d u = d.rh ++ (othH d u).drop d.rh.length := by simp [othH]
          rw [e] at hnd
          unfold genH
          rw [vB_append, vB_append, vB_set (y := { x with g := g }) hx rfl, ← vB_append, ← vB_append]
          exact hnd
      refine ⟨rfl, _, val, ⟨?_, hbd, h.sd⟩, hf1.mono fun c hc _ => by rw [Own, own c hc]; simp, rfl, rfl, ?_⟩
      · rw [deskC_gen]
        exact hf1.blk h.st fun e => by have := own _ e; rw [show (d.gen u d.o d.rs d.rh (d.asv u) ((d.ah u).set i { x with g := g }) (d.cs u) (d.ch u) (d.C u)).S = d.S from rfl, h.bd.oS] at this; cases this
      · rw [abs_gen, List.map_set]
        have e1 : toR val { x with g := g } = setMark g (toR val x) := rfl
        rw [e1, show (d.ah u).map (toR val) = ((absD d val).us u).ap from rfl, set_modify hap]
        rfl
    rw [ha] at ha1; cases ha1
    rw [add0] at hst
    exact hst
theorem do_rec (h : DeskAt w d 1 val) {A : Do1} {f : Nat} {cap : Array Value} (hc : CapOk A f cap w (Own d)) {i : Nat} {x : HRec} (hx : d.rh[i]? = some x) (hA : ∀ j v, A = .set j v -> j < (hv val x).length) {a : Addr} (ha : d.rs.a = some a) :
    Calls Tryz.prog f (([.pointer (some (a.add (i * 2)))] : List Value) ++ cap.toList).toArray w fun e w' => e = .returned (.tuple #[]) /\ ∃ d' val', DeskAt w' d' 1 val' /\ Fr (Own d) w w' /\ d'.o = d.o /\ d'.S = d.S /\
      absD d' val' = { absD d val with recs := (absD d val).recs.modify i A.f } := by
  have hm : x ∈ allH d := mem_rh (List.mem_of_getElem? hx)
  have hu : 0 < 4 := by decide
  have hap : (absD d val).recs[i]? = some (toR val x) := by show (d.rh.map (toR val))[i]? = _; rw [List.getElem?_map, hx]; rfl
  cases A with
  | set j v =>
    obtain ⟨rfl, r, s, rfl, h3, h4, _, _⟩ := hc
    obtain ⟨a1, ha1, _, hcl⟩ := h.bd.rw_.elem recC_len hx (o := 1) (v := .slice x.s.a x.s.len x.s.cap) rfl
    rw [ha] at ha1; cases ha1
    have hj := hA j v rfl
    obtain ⟨b, hb⟩ := row_some (h.bd.vr x hm) hj
    show Calls Tryz.prog 54 #[.pointer (some (a.add (i * 2))), .pointer (some ⟨r, 0, none⟩), .pointer (some ⟨s, 0, none⟩)] w _
    refine Calls.mono (set1_c hcl (h.bd.vr x hm) hj h3 h4) ?_
    rintro e w1 ⟨rfl, hr1, hf1, hs1⟩
    refine ⟨rfl, d, _, h.setVal hm hb hf1 hr1, hf1.mono fun c hc _ => by rw [Own, h.bd.oV c (mem_vB hm hc)]; simp, rfl, rfl, ?_⟩
    rw [abs_upd_rec h.bd.nd h.bd.low hx hb]
    rw [modify_congr (f := fun r => { r with v := (hv val x).set j v }) (g := (Do1.set j v).f) hap rfl]
  | mark g =>
    obtain ⟨rfl, r, rfl, h3, _⟩ := hc
    have hi : i < d.rh.length := (List.getElem?_eq_some_iff.1 hx).1
    show Calls Tryz.prog 57 #[.pointer (some (a.add (i * 2))), .pointer (some ⟨r, 0, none⟩)] w _
    refine mark1_c h3 ?_
    obtain ⟨a1, ha1, hst⟩ := h.bd.rw_.stField (i := i) (o := 0) recC_len hi (by decide) { x with g := g } (.bool g) (fun y hy => by rw [hx] at hy; cases hy; rfl) (K := fun w1 => Ending.returned (.tuple #[]) = .returned (.tuple #[]) /\ ∃ d' val', DeskAt w1 d' 1 val' /\ Fr (Own d) w w1 /\ d'.o = d.o /\ d'.S = d.S /\
      absD d' val' = { absD d val with recs := (absD d val).recs.modify i (Do1.mark g).f }) fun w1 hr1 hf1 hs1 => by
      have own : ∀ b ∈ blkOf d.rs, d.o b = some .R := h.bd.oR
      have hbd : BodyAt w1 (d.gen 0 d.o d.rs (d.rh.set i { x with g := g }) (d.asv 0) (d.ah 0) (d.cs 0) (d.ch 0) (d.C 0)) val := by
        have ne : ∀ {b : Nat} {κ : DKey}, d.o b = some κ -> κ ≠ .R -> ¬ b ∈ blkOf d.rs := fun {b κ} hb hk e => by rw [own b e] at hb; exact hk (Option.some.inj hb).symm
        refine h.bd.gen hu hf1 (fun b κ hb _ hk _ _ => ⟨ne hb hk, hb⟩) h.bd.oS hr1 own ((h.bd.aw 0 hu).fr hf1 fun b hb => ne (h.bd.oA 0 hu b hb) (by simp)) (h.bd.oA 0 hu) (fun e => ⟨(h.bd.mp e 0 hu).fr hf1 (ne (h.bd.oC e 0 hu) (by simp)), h.bd.oC e 0 hu⟩) (fun e => ⟨(h.bd.ml e 0 hu).fr hf1 fun b hb => ne (h.bd.oK e 0 hu b hb) (by simp), h.bd.oK e 0 hu⟩) (fun y hy => ?_) ?_ (fun b hb => Nat.lt_of_lt_of_le (h.bd.lt b hb) hf1.size)
        · left
          simp only [List.mem_append] at hy
          rcases hy with (hy | hy) | hy
          · exact ⟨y, mem_uH hu (List.mem_append_left _ hy), rfl⟩
          · exact ⟨y, mem_ah hu hy, rfl⟩
          · rcases List.mem_or_eq_of_mem_set hy with hy | rfl
            · exact ⟨y, mem_rh hy, rfl⟩
            · exact ⟨x, hm, rfl⟩
        · have hnd := (nd_u hu).1 h.bd.nd
          have e : othH d 0 = d.rh ++ (othH d 0).drop d.rh.length := by simp [othH]
          rw [e] at hnd
          unfold genH
          rw [vB_append, vB_append (d.rh.set _ _), vB_set (y := { x with g := g }) hx rfl, ← vB_append, ← vB_append]
          exact hnd
      refine ⟨rfl, _, val, ⟨?_, hbd, h.sd⟩, hf1.mono fun c hc _ => by rw [Own, own c hc]; simp, rfl, rfl, ?_⟩
      · have e : deskC 1 (d.gen 0 d.o d.rs (d.rh.set i { x with g := g }) (d.asv 0) (d.ah 0) (d.cs 0) (d.ch 0) (d.C 0)) = deskC 1 d := deskC_gen
        rw [e]
        exact hf1.blk h.st fun e => by have := own _ e; rw [show (d.gen 0 d.o d.rs (d.rh.set i { x with g := g }) (d.asv 0) (d.ah 0) (d.cs 0) (d.ch 0) (d.C 0)).S = d.S from rfl, h.bd.oS] at this; cases this
      · rw [abs_gen, List.map_set]
        have e1 : toR val { x with g := g } = setMark g (toR val x) := rfl
        rw [e1, show d.rh.map (toR val) = (absD d val).recs from rfl, set_modify hap]
        simp only [Dsk.setU, Dsk.mk.injEq, true_and, and_true]
        refine ⟨rfl, ?_⟩
        funext v
        by_cases e : v = 0
        · rw [if_pos e, e]; rfl
        · rw [if_neg e]
    rw [ha] at ha1; cases ha1
    rw [add0] at hst
    exact hst
end Go.Proofs.YtcihcbfcgjepfaaGreatDoor

/- Desks: a change of a record in a buffer; alter. No condition but those stated. -/
set_option maxRecDepth 100000
set_option linter.unusedVariables false
set_option linter.unusedSimpArgs false
namespace Go.Proofs.YtcihcbfcgjepfaaGreatDoor
open Go.Sh Go.RowKit
variable {w w' : World} {d d' : DLay} {val : Nat -> List Val} {mu : Int}
theorem chH_cons (p : Chg) (l : List Chg) : chH (p :: l) = p.2.1 :: p.2.2 :: chH l := by simp [chH]
theorem put_perm : ∀ (l : List Chg) (k : Int) (c : HRec × HRec), (chH (AL.put l k c)).Perm (c.1 :: c.2 :: chH (AL.del l k))
  | [], k, c => by simp [AL.put, AL.del, chH]
  | (a, b) :: l, k, c => by
    simp only [AL.put, AL.del]
    by_cases e : a = k
    · rw [if_pos e, if_pos e, chH_cons]
    · rw [if_neg e, if_neg e, chH_cons, chH_cons]
      exact (((put_perm l k c).cons b.2).cons b.1).trans (List.perm_append_comm_assoc [b.1, b.2] [c.1, c.2] _)
theorem del_sub : ∀ {l : List Chg} {k : Int} {x : HRec}, x ∈ chH (AL.del l k) -> x ∈ chH l
  | [], k, x, h => h
  | (a, b) :: l, k, x, h => by
    simp only [AL.del] at h
    by_cases e : a = k
    · rw [if_pos e] at h
      rw [chH_cons]; exact List.mem_cons_of_mem _ (List.mem_cons_of_mem _ h)
    · rw [if_neg e, chH_cons] at h
      rw [chH_cons]
      rcases List.mem_cons.1 h with rfl | h
      · exact List.mem_cons_self ..
      · refine List.mem_cons_of_mem _ ?_
        rcases List.mem_cons.1 h with rfl | h
        · exact List.mem_cons_self ..
        · exact List.mem_cons_of_mem _ (del_sub h)
theorem put_same : ∀ {l : List Chg} {k : Int} {c : HRec × HRec}, AL.get l k = some c -> AL.put l k c = l
  | [], k, c, h => by cases h
  | (a, b) :: l, k, c, h => by
    simp only [AL.get] at h
    simp only [AL.put]
    by_cases e : a = k
    · rw [if_pos e] at h; cases h; rw [if_pos e]
    · rw [if_neg e] at h; rw [if_neg e, put_same h]
theorem put_map {val val' : Nat -> List Val} {c : HRec × HRec} {c' : Rec × Rec} {k : Int} (hc : (toR val' c.1, toR val' c.2) = c') : ∀ {l : List Chg}, (∀ x ∈ chH (AL.del l k), toR val' x = toR val x) -> (AL.put l k c).map (toC val') = AL.put (l.map (toC val)) k c'
  | [], _ => by simp [AL.put, toC, hc]
  | (a, b) :: l, h => by
    simp only [AL.del] at h
    by_cases e : a = k
    · rw [if_pos e] at h
      simp only [AL.put, List.map_cons, toC, if_pos e]
      rw [hc]
      congr 1
      refine List.map_congr_left fun p hp => ?_
      have h1 : p.2.1 ∈ chH l := List.mem_flatMap.2 ⟨p, hp, by simp⟩
      have h2 : p.2.2 ∈ chH l := List.mem_flatMap.2 ⟨p, hp, by simp⟩
      rw [toC, toC, h _ h1, h _ h2]
    · rw [if_neg e, chH_cons] at h
      simp only [AL.put, List.map_cons, if_neg e]
      rw [show toC val (a, b) = (a, (toR val b.1, toR val b.2)) from rfl]
      simp only [AL.put, if_neg e]
      rw [put_map hc fun x hx => h x (List.mem_cons_of_mem _ (List.mem_cons_of_mem _ hx))]
      congr 1
      rw [toC, h b.1 (List.mem_cons_self ..), h b.2 (List.mem_cons_of_mem _ (List.mem_cons_self ..))]
def ApC (d : DLay) (u : Nat) (k : Int) (c : HRec × HRec) : Prop := (vB (c.1 :: c.2 :: (chH (AL.del (d.ch u) k) ++ d.ah u ++ othH d u))).Nodup
theorem ApC.gen {u : Nat} (hu : u < 4) {k : Int} {c : HRec × HRec} (h : ApC d u k c) {c2 : HRec} (hs : c2.s = c.2.s) : (vB (genH d u d.rh (d.ah u) (AL.put (d.ch u) k (c.1, c2)))).Nodup := by
  have e : othH d u = d.rh ++ (othH d u).drop d.rh.length := by simp [othH]
  have e2 : genH d u d.rh (d.ah u) (AL.put (d.ch u) k (c.1, c2)) = chH (AL.put (d.ch u) k (c.1, c2)) ++ (d.ah u ++ othH d u) := by rw [genH, ← e, List.append_assoc]
  rw [e2]
  refine (vB_perm ((put_perm (d.ch u) k (c.1, c2)).append_right _)).nodup_iff.2 ?_
  unfold ApC at h
  rw [vB_cons, vB_cons] at h
  rw [List.cons_append, List.cons_append, vB_cons, vB_cons, hs]
  have e3 : chH (AL.del (d.ch u) k) ++ (d.ah u ++ othH d u) = chH (AL.del (d.ch u) k) ++ d.ah u ++ othH d u := (List.append_assoc ..).symm
  rw [e3]
  exact h
theorem ApC.far {u : Nat} {k : Int} {c : HRec × HRec} (h : ApC d u k c) {y : HRec} (hy : y = c.1 ∨ y ∈ chH (AL.del (d.ch u) k) ++ d.ah u ++ othH d u) : ∀ b ∈ blkOf c.2.s, b ∉ blkOf y.s := fun b hb hyb => by
  unfold ApC at h
  rw [vB_cons, vB_cons] at h
  obtain ⟨_, h2, h3⟩ := List.nodup_append.1 h
  rcases hy with rfl | hy
  · exact h3 b hyb b (List.mem_append_left _ hb) rfl
  · exact (List.nodup_append.1 h2).2.2 b hb b (mem_vB hy hyb) rfl
theorem oth_uH {u v : Nat} (hv : v < 4) (hne : v ≠ u) {x : HRec} (hx : x ∈ uH d v) : x ∈ othH d u := by
  unfold othH
  simp only [List.mem_append]
  rcases (by omega : v = 0 ∨ v = 1 ∨ v = 2 ∨ v = 3) with rfl | rfl | rfl | rfl
  · right; left; rw [if_neg (Ne.symm hne)]; exact hx
  · right; right; left; rw [if_neg (Ne.symm hne)]; exact hx
  · right; right; right; left; rw [if_neg (Ne.symm hne)]; exact hx
  · right; right; right; right; rw [if_neg (Ne.symm hne)]; exact hx
theorem abs_put {u : Nat} {k : Int} {c : HRec × HRec} {c2 : HRec} {val' : Nat -> List Val} {o' : Nat -> Option DKey} {cs' : SV} (hl : Low d) (h : ApC d u k c) (same : ∀ y : HRec, (∀ b ∈ blkOf c.2.s, b ∉ blkOf y.s) -> toR val' y = toR val y) :
    absD (d.gen u o' d.rs d.rh (d.asv u) (d.ah u) cs' (AL.put (d.ch u) k (c.1, c2)) (d.C u)) val' = (absD d val).setU u { (absD d val).us u with ch := AL.put ((absD d val).us u).ch k (toR val c.1, toR val' c2) } := by
  have far : ∀ {y : HRec}, y = c.1 ∨ y ∈ chH (AL.del (d.ch u) k) ++ d.ah u ++ othH d u -> toR val' y = toR val y := fun {y} hy => same y (h.far hy)
  have oth : ∀ {y : HRec}, y ∈ othH d u -> toR val' y = toR val y := fun {y} hy => far (.inr (List.mem_append_right _ hy))
  rw [abs_gen]
  have e1 : (AL.put (d.ch u) k (c.1, c2)).map (toC val') = AL.put ((d.ch u).map (toC val)) k (toR val c.1, toR val' c2) := put_map (by rw [far (.inl rfl)]) fun x hx => far (.inr (by simp only [List.mem_append]; exact .inl (.inl hx)))
  have e2 : (d.ah u).map (toR val') = (d.ah u).map (toR val) := List.map_congr_left fun x hx => far (.inr (by simp only [List.mem_append]; exact .inl (.inr hx)))
  have e3 : d.rh.map (toR val') = d.rh.map (toR val) := List.map_congr_left fun x hx => oth (by unfold othH; exact List.mem_append_left _ hx)
  rw [e1, e2, e3]
  simp only [absD, Dsk.setU, Dsk.mk.injEq, true_and, and_true]
  funext v
  by_cases e : v = u
  · subst e; simp [absU]
  · simp only [if_neg e, absU, Usr.mk.injEq, true_and]
    by_cases hv : v < 4
    · have m : ∀ {x : HRec}, x ∈ uH d v -> toR val' x = toR val x := fun {x} hx => oth (oth_uH hv e hx)
      refine ⟨List.map_congr_left fun p hp => ?_, List.map_congr_left fun x hx => m (List.mem_append_right _ hx)⟩
      rw [toC, toC, m (List.mem_append_left _ (List.mem_flatMap.2 ⟨p, hp, by simp⟩)), m (List.mem_append_left _ (List.mem_flatMap.2 ⟨p, hp, by simp⟩))]
    · obtain ⟨h1, h2⟩ := hl v (by omega)
      rw [h1, h2]; exact ⟨rfl, rfl⟩
theorem do_chg (h : DeskAt w d 1 val) {u : Nat} (hu : u < 4) {A : Do1} {f : Nat} {cap : Array Value} {k : Int} {c : HRec × HRec} {r : Nat}
    (hb : w.heap[r]? = some (.cells #[.bool c.1.g, .slice c.1.s.a c.1.s.len c.1.s.cap, .bool c.2.g, .slice c.2.s.a c.2.s.len c.2.s.cap] 133)) (hr : d.o r = none) (hc : CapOk A f cap w (fun b => Own d b ∨ b = r))
    (r1 : RowAt w 28 3 c.1.s ((hv val c.1).flatMap valV)) (r2 : RowAt w 28 3 c.2.s ((hv val c.2).flatMap valV)) (ho : ∀ b, b ∈ blkOf c.1.s ∨ b ∈ blkOf c.2.s -> d.o b = some .V)
    (hfree : c.2 ∈ allH d ∨ ∀ b ∈ blkOf c.2.s, b ∉ vB (allH d)) (nd : ApC d u k c) (hA : ∀ j v, A = .set j v -> j < (hv val c.2).length) :
    Calls Tryz.prog f (([.pointer (some ((⟨r, 0, none⟩ : Addr).add 2))] : List Value) ++ cap.toList).toArray w fun e w' => e = .returned (.tuple #[]) /\ ∃ (c2 : HRec) (val' : Nat -> List Val), c2.s = c.2.s /\ DeskAt w' d 1 val' /\ Fr (fun b => Own d b ∨ b = r) w w' /\
      w'.heap[r]? = some (.cells #[.bool c.1.g, .slice c.1.s.a c.1.s.len c.1.s.cap, .bool c2.g, .slice c2.s.a c2.s.len c2.s.cap] 133) /\ RowAt w' 28 3 c.1.s ((hv val' c.1).flatMap valV) /\ RowAt w' 28 3 c2.s ((hv val' c2).flatMap valV) /\
      (∀ y : HRec, (∀ b ∈ blkOf c.2.s, b ∉ blkOf y.s) -> toR val' y = toR val y) /\ toR val' c2 = A.f (toR val c.2) := by
  cases A with
  | set j v =>
    obtain ⟨rfl, r7, s, rfl, h3, h4, n7, ns⟩ := hc
    have hj := hA j v rfl
    obtain ⟨a, ha⟩ := row_some r2 hj
    have hab : a.block ∈ blkOf c.2.s := by simp [blkOf, ha]
    have hblk : ∀ b ∈ blkOf c.2.s, b = a.block := fun b hb => by simpa [blkOf, ha] using hb
    show Calls Tryz.prog 54 #[.pointer (some ((⟨r, 0, none⟩ : Addr).add 2)), .pointer (some ⟨r7, 0, none⟩), .pointer (some ⟨s, 0, none⟩)] w _
    have hcl : w.cell? (((⟨r, 0, none⟩ : Addr).add 2).add 1) = some (.slice c.2.s.a c.2.s.len c.2.s.cap) := by rw [add_def, add_def, cell_blk hb]; rfl
    refine Calls.mono (set1_c hcl r2 hj h3 h4) ?_
    rintro e w1 ⟨rfl, hr1, hf1, hs1⟩
    have hV := ho _ (.inr hab)
    have hfar := nd.far (y := c.1) (.inl rfl)
    have hD : DeskAt w1 d 1 (updV val a.block ((hv val c.2).set j v)) := by
      rcases hfree with hm | hn
      · exact h.setVal hm ha hf1 hr1
      · have hf' : Fr (· = a.block) w w1 := hf1.mono fun i hi _ => hblk i hi
        exact ⟨hf'.blk h.st fun e => (by rw [← show d.S = a.block from e, h.bd.oS] at hV; cases hV), h.bd.free hV (hn _ hab) hf' _, h.sd⟩
    have e1 : hv (updV val a.block ((hv val c.2).set j v)) c.1 = hv val c.1 := hv_other fun e => hfar _ hab e
    have e2 : hv (updV val a.block ((hv val c.2).set j v)) c.2 = (hv val c.2).set j v := hv_same ha rfl
    refine ⟨rfl, c.2, _, rfl, hD, hf1.mono fun b hb' _ => .inl (by rw [Own, ho b (.inr hb')]; simp), hf1.blk hb fun e => (by rw [hblk _ e] at hr; rw [hr] at hV; cases hV), ?_, ?_, fun y hy => toR_other (hy _ hab), ?_⟩
    · rw [e1]; exact r1.fr hf1 fun b hb' hb2 => hfar b hb2 hb'
    · rw [e2]; exact hr1
    · rw [toR, e2]; rfl
  | mark g =>
    obtain ⟨rfl, r5, rfl, h3, n5⟩ := hc
    show Calls Tryz.prog 57 #[.pointer (some ((⟨r, 0, none⟩ : Addr).add 2)), .pointer (some ⟨r5, 0, none⟩)] w _
    refine mark1_c h3 ?_
    rw [add_def]
    refine st1_intro hb (by show 0 + 2 < 4; omega) fun w1 hw1 hb1 => ?_
    have hf1 : Fr (· = r) w w1 := by rw [hw1]; exact Fr.cell w _ _ _
    have no : ∀ {b : Nat}, d.o b ≠ none -> ¬ b = r := fun {b} hb e => hb (by rw [e]; exact hr)
    refine ⟨rfl, { c.2 with g := g }, val, rfl, h.fr hf1 fun b hb => no hb, hf1.mono fun b hb _ => .inr hb, hb1, r1.fr hf1 fun b hb => no (by rw [ho b (.inl hb)]; simp), r2.fr hf1 fun b hb => no (by rw [ho b (.inr hb)]; simp), fun _ _ => rfl, rfl⟩
theorem put_chg (h : DeskAt w d 1 val) {u : Nat} (hu : u < 4) {k : Int} {c : HRec × HRec} {c2 : HRec} (hs : c2.s = c.2.s) (r1 : RowAt w 28 3 c.1.s ((hv val c.1).flatMap valV)) (r2 : RowAt w 28 3 c2.s ((hv val c2).flatMap valV))
    (ho : ∀ b, b ∈ blkOf c.1.s ∨ b ∈ blkOf c.2.s -> d.o b = some .V) (nd : ApC d u k c) :
    ∃ w1, (Instr.mapUpdate 88 (.map (some (d.C u))) (.int .i64 k) (.agg #[.bool c.1.g, .slice c.1.s.a c.1.s.len c.1.s.cap, .bool c2.g, .slice c2.s.a c2.s.len c2.s.cap])).run Tryz.prog w = .ok () w1 /\
      DeskAt w1 (d.gen u d.o d.rs d.rh (d.asv u) (d.ah u) (d.cs u) (AL.put (d.ch u) k (c.1, c2)) (d.C u)) 1 val /\ Fr (· = d.C u) w w1 /\ w1.heap.size = w.heap.size := by
  obtain ⟨w1, hrun, hm1, hf1, hs1⟩ := (h.mp hu).upd (P := Tryz.prog) keysK bu88 k (c.1, c2)
  have oC := h.bd.oC h.sd u hu
  have ne : ∀ {b : Nat} {κ : DKey}, d.o b = some κ -> κ ≠ .C u -> ¬ b = d.C u := fun {b κ} hb hk e => by rw [e, oC] at hb; exact hk (Option.some.inj hb).symm
  refine ⟨w1, hrun, ⟨?_, ?_, h.sd⟩, hf1, hs1⟩
  · rw [deskC_gen]
    exact hf1.blk h.st (ne h.bd.oS (by simp))
  · refine h.bd.gen hu hf1 (fun b κ hb _ _ _ hk => ⟨ne hb hk, hb⟩) h.bd.oS (h.bd.rw_.fr hf1 fun b hb => ne (h.bd.oR b hb) (by simp)) h.bd.oR ((h.bd.aw u hu).fr hf1 fun b hb => ne (h.bd.oA u hu b hb) (by simp)) (h.bd.oA u hu)
      (fun _ => ⟨hm1, oC⟩) (fun e => absurd (h.sd.symm.trans e) (by simp)) (fun x hx => ?_) (nd.gen hu hs) (fun b hb => Nat.lt_of_lt_of_le (h.bd.lt b hb) hf1.size)
    simp only [List.mem_append] at hx
    rcases hx with (hx | hx) | hx
    · have := (put_perm (d.ch u) k (c.1, c2)).mem_iff.1 hx
      rcases List.mem_cons.1 this with rfl | this
      · exact .inr ⟨r1.fr hf1 fun b hb => ne (ho b (.inl hb)) (by simp), fun b hb => ho b (.inl hb)⟩
      · rcases List.mem_cons.1 this with rfl | this
        · exact .inr ⟨r2.fr hf1 fun b hb => ne (ho b (.inr (by rw [← hs]; exact hb))) (by simp), fun b hb => ho b (.inr (by rw [← hs]; exact hb))⟩
        · exact .inl ⟨x, mem_uH hu (List.mem_append_left _ (del_sub this)), rfl⟩
    · exact .inl ⟨x, mem_ah hu hx, rfl⟩
    · exact .inl ⟨x, mem_rh hx, rfl⟩
end Go.Proofs.YtcihcbfcgjepfaaGreatDoor

/- Desks: alter. No condition but those stated. -/
set_option maxRecDepth 100000
set_option linter.unusedVariables false
set_option linter.unusedSimpArgs false
namespace Go.Proofs.YtcihcbfcgjepfaaGreatDoor
open Go.Sh Go.RowKit
variable {w w' : World} {d d' : DLay} {val : Nat -> List Val} {mu : Int}
theorem CapOk.up {A : Do1} {f : Nat} {cap : Array Value} {D D' : Nat -> Prop} (h : CapOk A f cap w D) (hd : ∀ b, b < w.heap.size -> D' b -> D b) : CapOk A f cap w D' := by
  cases A with
  | set i v =>
    obtain ⟨h1, r, s, h2, h3, h4, h5, h6⟩ := h
    exact ⟨h1, r, s, h2, h3, h4, fun e => h5 (hd _ (blk_lt h3) e), fun e => h6 (hd _ (blk_lt h4) e)⟩
  | mark g =>
    obtain ⟨h1, r, h2, h3, h5⟩ := h
    exact ⟨h1, r, h2, h3, fun e => h5 (hd _ (blk_lt h3) e)⟩
theorem CapOk.pu {A : Do1} {f : Nat} {cap : Array Value} {D : Nat -> Prop} (h : CapOk A f cap w D) (hp : Pu w w') : CapOk A f cap w' D := h.fr (Fr.pu hp : Fr (fun _ => False) w w') fun _ _ e => e.elim
theorem alter_tail (h : DeskAt w d 1 val) {u : Nat} (hu : u < 4) {A : Do1} {f : Nat} {cap : Array Value} {c : HRec × HRec} {r : Nat}
    (hb : w.heap[r]? = some (.cells #[.bool c.1.g, .slice c.1.s.a c.1.s.len c.1.s.cap, .bool c.2.g, .slice c.2.s.a c.2.s.len c.2.s.cap] 133)) (hr : d.o r = none) (hc : CapOk A f cap w (fun b => Own d b ∨ b = r))
    (r1 : RowAt w 28 3 c.1.s ((hv val c.1).flatMap valV)) (r2 : RowAt w 28 3 c.2.s ((hv val c.2).flatMap valV)) (ho : ∀ b, b ∈ blkOf c.1.s ∨ b ∈ blkOf c.2.s -> d.o b = some .V)
    (hfree : c.2 ∈ allH d ∨ ∀ b ∈ blkOf c.2.s, b ∉ vB (allH d)) (nd : ApC d u (d.at_ u) c) (hA : ∀ j v, A = .set j v -> j < (hv val c.2).length) {R : Rt}
    (hR : ∀ w' d' val', DeskAt w' d' 1 val' -> Fr (fun b => Own d b ∨ b = r) w w' -> d'.o = d.o -> d'.S = d.S ->
      absD d' val' = (absD d val).setU u { (absD d val).us u with ch := AL.put ((absD d val).us u).ch (d.at_ u) (toR val c.1, A.f (toR val c.2)) } -> R (.returned (.int .i64 0)) w') :
    hasBody Tryz.prog f = true /\ Calls Tryz.prog f (([.pointer (some ((⟨r, 0, none⟩ : Addr).add 2))] : List Value) ++ cap.toList).toArray w fun e w33 => e = .returned (.tuple #[]) /\ dwE w33 fun w34 =>
      ∃ m70 : Option Nat, w34.cell? ((uA d u).add 2) = some (.map m70) /\ ∃ n74 : Int, w34.cell? ((uA d u).add 1) = some (.int .i64 n74) /\
      ∃ b75_0 : Bool, w34.cell? ((⟨r, 0, none⟩ : Addr).add 0) = some (.bool b75_0) /\ ∃ l75_1 : SV, w34.cell? ((⟨r, 0, none⟩ : Addr).add 1) = some (.slice l75_1.a l75_1.len l75_1.cap) /\
      ∃ b75_2 : Bool, w34.cell? ((⟨r, 0, none⟩ : Addr).add 2) = some (.bool b75_2) /\ ∃ l75_3 : SV, w34.cell? ((⟨r, 0, none⟩ : Addr).add 3) = some (.slice l75_3.a l75_3.len l75_3.cap) /\
      doE Tryz.prog (Instr.mapUpdate 88 (.map m70) (.int .i64 n74) (.agg #[.bool b75_0, .slice l75_1.a l75_1.len l75_1.cap, .bool b75_2, .slice l75_3.a l75_3.len l75_3.cap])) w34 fun w37 => R (.returned (.int .i64 0)) w37 := by
  refine ⟨hc.body, (do_chg h hu hb hr hc r1 r2 ho hfree nd hA).mono ?_⟩
  rintro e w33 ⟨rfl, c2, val', hs, h33, hf33, hb33, q1, q2, same, hc2⟩
  refine ⟨rfl, dwE_intro fun w34 hp34 _ => ?_⟩
  have h34 := h33.pu hp34
  have hb34 := hp34.blk hb33
  obtain ⟨w37, hrun, h37, hf37, _⟩ := put_chg h34 hu (k := d.at_ u) (c := c) hs (q1.pu hp34) (q2.pu hp34) ho nd
  refine ⟨some (d.C u), h34.uCh hu, d.at_ u, h34.uAt hu, _, cl hb34 0, c.1.s, cl hb34 1, _, cl hb34 2, c2.s, cl hb34 3, w37, hrun, ?_⟩
  refine hR w37 _ val' h37 ((hf33.trans (Fr.pu hp34 : Fr (fun b => Own d b ∨ b = r) w33 w34) fun i hi _ => hi).trans hf37 fun i hi _ => .inl (by rw [Own, show i = d.C u from hi, h.bd.oC h.sd u hu]; simp)) rfl rfl ?_
  rw [abs_put h.bd.low nd same, hc2]
theorem alter_c (h : DeskAt w d 1 val) (hI : Inv (absD d val)) {u : Nat} (hu : u < 4) (h0 : d.at_ u ≠ 0) {A : Do1} {f : Nat} {cap : Array Value} (hc : CapOk A f cap w (Own d)) (hA : ∀ j v, A = .set j v -> j < d.flds.length) :
    Calls Tryz.prog 53 #[d.ptr, .int .i64 (u : Int), .pointer (some (uA d u)), .func (.func f) #[] cap] w fun e w' => e = .returned (.int .i64 (lockC u (absD d val))) /\ ∃ d' val', DLeft w w' d d' 1 val' /\ absD d' val' = if lockC u (absD d val) = 0 then alterS u A.f (absD d val) else absD d val := by
  refine F53_calls _ _ _ _ w _ ⟨_, h.uAt hu, (lock_c h hu).mono ?_⟩
  rintro e w2 ⟨rfl, lk', h2, hf2, hs2, e2⟩
  have L2 : DLeft w w2 d { d with lk := lk' } 1 val := ⟨h2, hf2.mono fun i hi _ => by rw [show i = d.L from hi, h.bd.oL]; simp, fun b hb => .inl hb, rfl⟩
  have eM : ((absD d val).us u).mode = d.mode u := rfl
  have eA : ((absD d val).us u).at_ = d.at_ u := rfl
  refine ⟨_, rfl, Br.of (fun c => ?_) (fun c => ?_)⟩
  · have c : lockC u (absD d val) ≠ 0 := bntrue c
    rw [if_neg c] at e2
    exact ⟨rfl, _, val, L2, by rw [if_neg c]; exact e2⟩
  have c : lockC u (absD d val) = 0 := bnfalse c
  rw [if_pos c] at e2
  have hc2 : CapOk A f cap w2 (Own d) := hc.fr hf2 fun b _ hb => by rw [Own, show b = d.L from hb, h.bd.oL]; simp
  have hat := hI.at_ u hu
  rw [eA, ah_len, show (absD d val).recs.length = d.rh.length by simp [absD]] at hat
  have hal := h.as_len hu
  have hrl := h.rs_len
  have hr3 := hI.rh
  have ha3 := hI.ah hu
  have fin : ∀ {w5 w6 : World} {d' : DLay} {val' : Nat -> List Val}, Pu w2 w5 -> DeskAt w6 d' 1 val' -> Fr (Own d) w5 w6 -> (∀ b, d'.o b ≠ none -> d.o b ≠ none ∨ w5.heap.size <= b) -> d'.S = d.S -> absD d' val' = alterS u A.f (absD d val) ->
      Ending.returned (.int .i64 0) = .returned (.int .i64 (lockC u (absD d val))) /\ ∃ d' val', DLeft w w6 d d' 1 val' /\ absD d' val' = if lockC u (absD d val) = 0 then alterS u A.f (absD d val) else absD d val := fun {w5 w6 d' val'} hp h6 hf ho hS ha =>
    ⟨by rw [c], d', val', L2.trans ⟨h6, (Fr.pu hp : Fr (Own d) w2 w5).trans hf fun i hi _ => hi, fun b hb => (ho b hb).imp id fun hz => Nat.le_trans hp.size hz, hS⟩, by rw [if_pos c]; exact ha⟩
  refine ⟨_, h2.uAt hu, Br.of (fun c1 => dwE_intro fun w5 hp5 _ => ?_) (fun c1 => ⟨_, h2.uMode hu, Br.of (fun c2 => dwE_intro fun w5 hp5 _ => ?_) (fun c2 => dwE_intro fun w5 hp5 _ => ?_)⟩)⟩
  · have c1 : d.at_ u < 0 := dtrue c1
    have h5 := h2.pu hp5
    have hlt : (-d.at_ u - 1).toNat < (d.ah u).length := by omega
    obtain ⟨x, hx⟩ := at_k hlt
    obtain ⟨a, ea, _, _⟩ := (h5.bd.aw u hu).elem recC_len hx (o := 0) (v := .bool x.g) rfl
    have ew : IntKind.i64.wrap ((IntKind.i64.wrap (0 - d.at_ u)) - 1) = -d.at_ u - 1 := by rw [wrap_in (n := 0 - d.at_ u) (by omega) (by omega), wrap_in (by omega) (by omega)]; omega
    refine ⟨d.asv u, h5.uAp hu, d.at_ u, h5.uAt hu, a, ea, ?_⟩
    rw [ew]
    refine ⟨by show 0 <= -d.at_ u - 1; omega, by show -d.at_ u - 1 < (((d.asv u).len : Nat) : Int); omega, hc2.body, (do_ap h5 hu (hc2.pu hp5) hx (fun j v e => by rw [(h.read hI (mem_ah hu (List.mem_of_getElem? hx))).2]; exact hA j v e) ea).mono ?_⟩
    rintro e w6 ⟨rfl, d', val', h6, hf6, ho6, hS6, habs⟩
    refine ⟨rfl, fin hp5 h6 hf6 (fun b hb => .inl (by rw [ho6] at hb; exact hb)) hS6 ?_⟩
    rw [habs, abs_lk, e2]
    have e3 : lockS u (absD d val) = absD d val := by simp only [lockS, eM, eA]; rw [if_pos (.inr (.inr (.inl c1)))]
    rw [e3]
    simp only [alterS, eA]
    rw [if_pos c1]
  · have c1 : ¬ d.at_ u < 0 := dfalse c1
    have c2 : d.mode u = 0 := btrue c2
    have h5 := h2.pu hp5
    have hlt : (d.at_ u - 1).toNat < d.rh.length := by omega
    obtain ⟨x, hx⟩ := at_k hlt
    obtain ⟨a, ea, _, _⟩ := h5.bd.rw_.elem recC_len hx (o := 0) (v := .bool x.g) rfl
    refine ⟨d.rs, h5.recs, d.at_ u, h5.uAt hu, a, ea, ?_⟩
    rw [wrap_in (by omega) (by omega)]
    refine ⟨by show 0 <= d.at_ u - 1; omega, by show d.at_ u - 1 < ((d.rs.len : Nat) : Int); omega, hc2.body, (do_rec h5 (hc2.pu hp5) hx (fun j v e => by rw [(h.read hI (mem_rh (List.mem_of_getElem? hx))).2]; exact hA j v e) ea).mono ?_⟩
    rintro e w6 ⟨rfl, d', val', h6, hf6, ho6, hS6, habs⟩
    refine ⟨rfl, fin hp5 h6 hf6 (fun b hb => .inl (by rw [ho6] at hb; exact hb)) hS6 ?_⟩
    rw [habs, abs_lk, e2]
    have e3 : lockS u (absD d val) = absD d val := by simp only [lockS, eM, eA]; rw [if_pos (.inr (.inr (.inr c2)))]
    rw [e3]
    simp only [alterS, eM, eA]
    rw [if_neg c1, if_pos c2]
  · have c1 : ¬ d.at_ u < 0 := dfalse c1
    have c2 : d.mode u ≠ 0 := bfalse c2
    have h5 := h2.pu hp5
    have hlt : (d.at_ u - 1).toNat < d.rh.length := by omega
    obtain ⟨x, hx⟩ := at_k hlt
    have hxm : x ∈ allH d := mem_rh (List.mem_of_getElem? hx)
    have hlen := (h.read hI hxm).2
    have hl16 : d.flds.length <= 16 := hI.f16
    have hl1 : d.flds ≠ [] := (validF_parts hI.vf).1
    have hl1 : 0 < d.flds.length := List.length_pos_iff.2 hl1
    have ew : IntKind.i64.wrap (d.at_ u - 1) = d.at_ u - 1 := wrap_in (by omega) (by omega)
    have recE : recK (absD d val) (d.at_ u) = toR val x := by
      unfold recK
      show (d.rh.map (toR val)).getD _ _ = _
      rw [List.getD_eq_getElem?_getD, List.getElem?_map, hx]; rfl
    refine ⟨fun y => Pu w5 y, Pu.refl _, some (d.C u), fun y hy => (h5.pu hy).uCh hu, d.at_ u, fun y hy => (h5.pu hy).uAt hu, _, (chG (d.ch u) (d.at_ u)).1.s, _, (chG (d.ch u) (d.at_ u)).2.s, _, fun y hy => ch_look ((h5.pu hy).mp hu) _, alB fun w21 hp21 hb21 => ⟨hp21, stA_fill hb21 bs133.symm rfl rfl fun w22 hb22 hf22 hs22 => ?_⟩⟩
    have zr : w5.heap.size < w21.heap.size := blk_lt hb21
    have hp22 : Pu w5 w22 := hp21.andNew hf22 fun i hi => by rw [show i = w5.heap.size from hi]; exact Nat.le_refl _
    have h22 := h5.pu hp22
    have z5 := hp5.size
    have nR : d.o w5.heap.size = none := h5.bd.out (Nat.le_refl _)
    refine Br.of (fun cn => ?_) (fun ce => ?_)
    · have cn : AL.get (d.ch u) (d.at_ u) = none := by simpa using cn
      refine dwE_intro fun w23 hp23 _ => ?_
      have h23 := h22.pu hp23
      have hb23 := hp23.blk hb22
      obtain ⟨a, ea, _, g0⟩ := h23.bd.rw_.elem recC_len hx (o := 0) (v := .bool x.g) rfl
      have rd : ∀ y, Pu w23 y -> y.cell? ((a.add ((d.at_ u - 1).toNat * 2)).add 0) = some (.bool x.g) /\ y.cell? ((a.add ((d.at_ u - 1).toNat * 2)).add 1) = some (.slice x.s.a x.s.len x.s.cap) := fun y hy => by
        obtain ⟨a', ea', _, g1⟩ := h23.bd.rw_.elem recC_len hx (o := 1) (v := .slice x.s.a x.s.len x.s.cap) rfl
        rw [ea] at ea'; cases ea'
        exact ⟨hy.cell g0, hy.cell g1⟩
      refine ⟨fun y => Pu w23 y, Pu.refl _, d.rs, fun y hy => (h23.pu hy).recs, d.at_ u, fun y hy => (h23.pu hy).uAt hu, a, ea, ?_⟩
      rw [ew]
      refine ⟨by show 0 <= d.at_ u - 1; omega, by show d.at_ u - 1 < ((d.rs.len : Nat) : Int); omega, x.g, fun y hy => (rd y hy).1, x.s, fun y hy => (rd y hy).2, d.rs, fun y hy => (h23.pu hy).recs, d.at_ u, fun y hy => (h23.pu hy).uAt hu, a, ea, ?_⟩
      rw [ew]
      refine ⟨by show 0 <= d.at_ u - 1; omega, by show d.at_ u - 1 < ((d.rs.len : Nat) : Int); omega, x.g, fun y hy => (rd y hy).1, x.s, fun y hy => (rd y hy).2, (copied_c (h23.vals hxm (by omega)) (by omega)).mono ?_⟩
      rintro e w30 ⟨s1, rfl, n1, hp30⟩
      have h30 := h23.pu hp30
      refine ⟨_, s1, rfl, hp30, (copied_c (h30.vals hxm (by omega)) (by omega)).mono ?_⟩
      rintro e w31 ⟨s2, rfl, n2, hp31⟩
      have h31 := h30.pu hp31
      have hb31 := hp31.blk (hp30.blk hb23)
      refine ⟨_, s2, rfl, stA_fill hb31 bs133.symm rfl rfl fun w32 hb32 hf32 hs32 => ?_⟩
      obtain ⟨a1, ea1⟩ := row_some (i := 0) n1.1 (by omega)
      obtain ⟨a2, ea2⟩ := row_some (i := 0) n2.1 (by omega)
      have bk1 : blkOf s1 = [a1.block] := by simp [blkOf, ea1]
      have bk2 : blkOf s2 = [a2.block] := by simp [blkOf, ea2]
      have m1 : w23.heap.size <= a1.block := n1.2 _ (by rw [bk1]; simp)
      have m1' : a1.block < w30.heap.size := n1.1.lt _ (by rw [bk1]; simp)
      have m2 : w30.heap.size <= a2.block := n2.2 _ (by rw [bk2]; simp)
      have m2' : a2.block < w31.heap.size := n2.1.lt _ (by rw [bk2]; simp)
      have z23 := hp23.size
      have z30 := hp30.size
      have z31 := hp31.size
      have o1 : ({ d with lk := lk' } : DLay).o a1.block = none := h23.bd.out m1
      have bd1 := h31.bd.ad o1 (by omega) (hv val x)
      have o2 : (({ d with lk := lk' } : DLay).ad a1.block).o a2.block = none := by
        show (if a2.block = a1.block then _ else _) = _
        rw [if_neg (by omega)]; exact h23.bd.out (by omega)
      have bd2 := bd1.ad o2 (by omega) (hv val x)
      have oR : ((({ d with lk := lk' } : DLay).ad a1.block).ad a2.block).o w5.heap.size = none := by
        show (if _ = a2.block then _ else if _ = a1.block then _ else _) = _
        rw [if_neg (by omega), if_neg (by omega)]; exact nR
      have h31' : DeskAt w31 ((({ d with lk := lk' } : DLay).ad a1.block).ad a2.block) 1 (updV (updV val a1.block (hv val x)) a2.block (hv val x)) := ⟨h31.st, bd2, h31.sd⟩
      have h32 := h31'.fr hf32 fun b hb e => hb (by rw [show b = w5.heap.size from e]; exact oR)
      have v1 : hv (updV (updV val a1.block (hv val x)) a2.block (hv val x)) ⟨x.g, s1⟩ = hv val x := by
        rw [hv_other (by show a2.block ∉ blkOf s1; rw [bk1]; simp; omega)]
        exact hv_same ea1 rfl
      have v2 : hv (updV (updV val a1.block (hv val x)) a2.block (hv val x)) ⟨x.g, s2⟩ = hv val x := hv_same ea2 rfl
      have ha4 : absD ((({ d with lk := lk' } : DLay).ad a1.block).ad a2.block) (updV (updV val a1.block (hv val x)) a2.block (hv val x)) = lockS u (absD d val) := by
        rw [abs_ad bd1 o2, abs_ad h31.bd o1, abs_lk, e2]
      have hpw : Pu w2 w32 := ((((hp5.trans hp22).trans hp23).trans hp30).trans hp31).andNew hf32 fun i hi => by rw [show i = w5.heap.size from hi]; exact z5
      have hf31 : Fr (· = w5.heap.size) w31 w32 := hf32
      have nlt : ∀ b ∈ vB (chH (d.ch u) ++ d.ah u ++ othH d u), b < w2.heap.size := fun b hb => by
        have : b ∈ vB (allH d) := (vB_perm (perm_u d hu)).mem_iff.2 hb
        exact h2.bd.lt b (by rw [show ({ d with lk := lk' } : DLay).o b = d.o b from rfl, h.bd.oV b this]; simp)
      have z22 := hp22.size
      refine alter_tail (A := A) (R := fun e w' => e = .returned (.int .i64 (lockC u (absD d val))) /\ ∃ d' val', DLeft w w' d d' 1 val' /\ absD d' val' = if lockC u (absD d val) = 0 then alterS u A.f (absD d val) else absD d val) h32 hu (c := (⟨x.g, s1⟩, ⟨x.g, s2⟩)) hb32 oR ((hc2.up fun b hb hD => ?_).pu hpw) ?_ ?_ (fun b hb => ?_) (.inr fun b hb hbx => ?_) ?_ (fun j v e => ?_) fun w' d' val' hD hf ho hS habs => ?_
      · rcases hD with hD | hD
        · have hD : (if b = a2.block then some DKey.V else if b = a1.block then some .V else d.o b) ≠ none := hD
          rwa [if_neg (by omega), if_neg (by omega)] at hD
        · omega
      · rw [v1]; exact (n1.1.pu hp31).fr hf31 fun b hb e => by rw [bk1] at hb; simp at hb; have : b = w5.heap.size := e; omega
      · rw [v2]; exact n2.1.fr hf31 fun b hb e => by rw [bk2] at hb; simp at hb; have : b = w5.heap.size := e; omega
      · show (if b = a2.block then some DKey.V else if b = a1.block then some .V else d.o b) = _
        rcases hb with hb | hb
        · have hb : b ∈ blkOf s1 := hb
          rw [bk1] at hb; simp at hb
          rw [if_neg (by omega), if_pos hb]
        · have hb : b ∈ blkOf s2 := hb
          rw [bk2] at hb; simp at hb
          rw [if_pos hb]
      · have hb : b ∈ blkOf s2 := hb
        rw [bk2] at hb; simp at hb
        have := nlt b ((vB_perm (perm_u d hu)).mem_iff.1 hbx)
        omega
      · unfold ApC
        rw [AL.del_none (by exact cn), vB_cons, vB_cons]
        show (blkOf s1 ++ (blkOf s2 ++ vB (chH (d.ch u) ++ d.ah u ++ othH d u))).Nodup
        rw [bk1, bk2]
        simp only [List.singleton_append, List.nodup_cons, List.mem_cons, not_or]
        refine ⟨⟨by omega, fun hb => ?_⟩, fun hb => ?_, (nd_u hu).1 h.bd.nd⟩
        · have := nlt _ hb; omega
        · have := nlt _ hb; omega
      · rw [v2, hlen]; exact hA j v e
      · rw [ha4] at habs
        refine fin hp5 hD (((Fr.pu ((((hp22.trans hp23).trans hp30).trans hp31).andNew hf32 fun i hi => by rw [show i = w5.heap.size from hi]; exact Nat.le_refl _) : Fr (Own d) w5 w32).trans hf fun i hi hlt => ?_)) (fun b hb => ?_) hS ?_
        · rcases hi with hi | hi
          · have hi : (if i = a2.block then some DKey.V else if i = a1.block then some .V else d.o i) ≠ none := hi
            rwa [if_neg (by omega), if_neg (by omega)] at hi
          · omega
        · rw [ho] at hb
          have hb : (if b = a2.block then some DKey.V else if b = a1.block then some .V else d.o b) ≠ none := hb
          by_cases q2 : b = a2.block
          · right; omega
          · by_cases q1 : b = a1.block
            · right; omega
            · rw [if_neg q2, if_neg q1] at hb; exact .inl hb
        · rw [habs]
          simp only [alterS, eM, eA]
          rw [if_neg c1, if_neg c2]
          have e5 : ((lockS u (absD d val)).us u) = (absD d val).us u := by unfold lockS; simp only; split <;> rfl
          have e6 : AL.get ((absD d val).us u).ch (d.at_ u) = none := by
            show AL.get ((d.ch u).map (toC val)) _ = _
            rw [get_map, cn]; rfl
          have e7 : toR (updV (updV val a1.block (hv val x)) a2.block (hv val x)) ⟨x.g, s1⟩ = toR val x := by rw [toR, v1]; rfl
          have e8 : toR (updV (updV val a1.block (hv val x)) a2.block (hv val x)) ⟨x.g, s2⟩ = toR val x := by rw [toR, v2]; rfl
          rw [e5, e6, e7, e8, recE]
          rfl
    · have ce : (AL.get (d.ch u) (d.at_ u)).isSome = true := by simpa using ce
      obtain ⟨c0, hc0⟩ := Option.isSome_iff_exists.1 ce
      have eG : chG (d.ch u) (d.at_ u) = c0 := by rw [chG, hc0]; rfl
      rw [eG] at hb22
      have mc := mem_ch hu (AL.get_mem hc0)
      have mc1 : c0.1 ∈ allH d := mc.1
      have mc2 : c0.2 ∈ allH d := mc.2
      refine alter_tail (A := A) (R := fun e w' => e = .returned (.int .i64 (lockC u (absD d val))) /\ ∃ d' val', DLeft w w' d d' 1 val' /\ absD d' val' = if lockC u (absD d val) = 0 then alterS u A.f (absD d val) else absD d val) h22 hu (c := c0) hb22 nR ((hc2.up fun b hb hD => ?_).pu (hp5.trans hp22)) (h22.bd.vr _ mc1) (h22.bd.vr _ mc2) (fun b hb => ?_) (.inl mc2) ?_ (fun j v e => ?_) fun w' d' val' hD hf ho hS habs => ?_
      · rcases hD with hD | hD
        · exact hD
        · omega
      · rcases hb with hb | hb
        · exact h.bd.oV b (mem_vB mc1 hb)
        · exact h.bd.oV b (mem_vB mc2 hb)
      · show (vB (c0.1 :: c0.2 :: (chH (AL.del (d.ch u) (d.at_ u)) ++ d.ah u ++ othH d u))).Nodup
        have q1 := (nd_u hu).1 h.bd.nd
        have q2 := put_perm (d.ch u) (d.at_ u) c0
        rw [put_same hc0] at q2
        have q3 : (uH d u ++ othH d u).Perm (c0.1 :: c0.2 :: (chH (AL.del (d.ch u) (d.at_ u)) ++ d.ah u ++ othH d u)) := by
          have := (q2.append_right (d.ah u)).append_right (othH d u)
          simpa [uH] using this
        exact (vB_perm q3).nodup_iff.1 q1
      · rw [(h.read hI mc2).2]; exact hA j v e
      · refine fin hp5 hD ((Fr.pu hp22 : Fr (Own d) w5 w22).trans hf fun i hi hlt => ?_) (fun b hb => ?_) hS ?_
        · rcases hi with hi | hi
          · exact hi
          · omega
        · rw [ho] at hb; exact .inl hb
        · rw [habs, abs_lk, e2]
          simp only [alterS, eM, eA]
          rw [if_neg c1, if_neg c2]
          have e5 : ((lockS u (absD d val)).us u) = (absD d val).us u := by unfold lockS; simp only; split <;> rfl
          have e6 : AL.get ((absD d val).us u).ch (d.at_ u) = some (toR val c0.1, toR val c0.2) := by
            show AL.get ((d.ch u).map (toC val)) _ = _
            rw [get_map, hc0]; rfl
          rw [e5, e6]
          rfl
end Go.Proofs.YtcihcbfcgjepfaaGreatDoor

/- Desks: Set, Mark. No condition but those stated. -/
set_option maxRecDepth 100000
set_option linter.unusedVariables false
set_option linter.unusedSimpArgs false
namespace Go.Proofs.YtcihcbfcgjepfaaGreatDoor
open Go.Sh Go.RowKit
variable {w w' : World} {d d' : DLay} {val : Nat -> List Val} {mu : Int}
theorem Held.dl {w2 : World} (h : Held w w2 d val) : DLeft w w2 d d 1 val := ⟨h.at_, h.fr, fun _ h => .inl h, rfl⟩
theorem set_c (h : DeskAt w d 0 val) (hI : Inv (absD d val)) (u : Int) (field : ByteArray) (v : Val) :
    Calls Tryz.prog 16 #[d.ptr, .int .i64 u, .string field, valA v] w fun e w' => e = .returned (.int .i64 (setC u field v (absD d val))) /\ ∃ d' val', DLeft w w' d d' 0 val' /\ absD d' val' = setS u field v (absD d val) := by
  refine F16_calls _ u field v.kind v.n v.s w _ (alB fun w1 hp1 hb1 => (enter_held h hp1 u).mono ?_)
  rintro e w2 ⟨rfl, h2, hf2, hs2⟩
  have z1 := hp1.size
  have lr : w.heap.size < w1.heap.size := blk_lt hb1
  have ho : d.o w.heap.size = none := h.bd.out (Nat.le_refl _)
  have nS : ¬ w.heap.size = d.S := fun e => by rw [e, h.bd.oS] at ho; cases ho
  have hb2 := hf2.blk hb1 nS
  have bad : ∀ {w3 : World} (n : Int), Held w w3 d val -> setC u field v (absD d val) = n -> n ≠ 0 -> runD Tryz.prog [leaveD d] w3 fun w' => Ending.returned (.int .i64 n) = .returned (.int .i64 (setC u field v (absD d val))) /\ ∃ d' val', DLeft w w' d d' 0 val' /\ absD d' val' = setS u field v (absD d val) := fun {w3} n h3 hn h0 =>
    h3.left fun w' hL _ _ => ⟨by rw [hn], d, val, hL, by rw [setS, hn, if_neg h0]⟩
  refine ⟨_, _, _, rfl, Br.of (fun c => ?_) (fun c => ?_)⟩
  · have hu := uC_ne c
    have e1 : uC u = 1 := by rw [uC, if_neg hu]
    rw [e1]
    exact bad 1 h2 (by rw [setC, if_pos hu]) (by decide)
  have hu := uC_eq c
  obtain ⟨n, rfl, hn⟩ := isU_nat hu
  rw [uP_ok hn]
  have eA : ((absD d val).us n).at_ = d.at_ n := rfl
  refine ⟨_, h2.at_.uAt hn, Br.of (fun c1 => ?_) (fun c1 => ?_)⟩
  · have c1 : d.at_ n = 0 := btrue c1
    exact bad 9 h2 (by rw [setC, if_neg (by simp [hu]), Int.toNat_natCast, eA, if_pos c1]) (by decide)
  have c1 : d.at_ n ≠ 0 := bfalse c1
  refine ⟨d.fs, h2.at_.flds, (index_c (h2.at_.fld hI.vf) field).mono ?_⟩
  rintro e w7 ⟨rfl, hp7⟩
  refine ⟨_, _, rfl, alB fun w8 hp8 hb8 => ?_⟩
  refine st1_intro hb8 (by decide) fun w9 hw9 hb9 => ?_
  have z7 := hp7.size
  have z8 := hp8.size
  have z2 : w1.heap.size = w2.heap.size := hs2.symm
  have hf9 : Fr (· = w7.heap.size) w8 w9 := by rw [hw9]; exact Fr.cell w8 _ _ _
  have hp29 : Pu w2 w9 := (hp7.trans hp8).andNew hf9 fun i hi => by rw [show i = w7.heap.size from hi]; exact z7
  have h9 := h2.pu hp29
  have eC : setC (n : Int) field v (absD d val) = match idxN d.flds field with | none => 4 | some i => if (fitS (d.flds.getD i default) d.page v).2 ≠ 0 then (fitS (d.flds.getD i default) d.page v).2 else lockC n (absD d val) := by
    rw [setC, if_neg (by simp [hu]), Int.toNat_natCast, eA, if_neg c1]; rfl
  refine Br.of (fun c2 => ?_) (fun c2 => ?_)
  · have c2 : idxN d.flds field = none := by simpa using c2
    rw [c2] at eC
    exact bad 4 h9 eC (by decide)
  have c2 : (idxN d.flds field).isSome = true := by simpa using c2
  obtain ⟨i, hi⟩ := Option.isSome_iff_exists.1 c2
  have hil := idxN_lt hi
  obtain ⟨fd, hfd⟩ := at_k hil
  have eD : d.flds.getD i default = fd := by rw [List.getD_eq_getElem?_getD, hfd]; rfl
  have eK : idxK d.flds field = (i : Int) := by rw [idxK, hi]; rfl
  rw [hi] at eC
  simp only [eD] at eC
  refine dwE_intro fun w11 hp11 _ => ?_
  have h11 := h9.pu hp11
  have hb11 := (hp29.trans hp11).blk hb2
  have hc11 := hp11.blk hb9
  obtain ⟨a, ea, _, _, _, _, f0, f1, f2, f3⟩ := fldAt (h11.at_.fld hI.vf) hfd
  have hfl := (h11.at_.fld hI.vf).len
  refine ⟨d.fs, h11.at_.flds, (i : Int), ?_, a, ea, by omega, by omega, fd.name, f0, fd.kind, f1, fd.width, f2, fd.null, f3, d.page, h11.at_.page, v.kind, cl hb11 0, v.n, cl hb11 1, v.s, cl hb11 2, (fit_c fd d.page v ?_ w11).mono ?_⟩
  · rw [cl0 hc11, eK]; rfl
  · have := fieldB_lim (hI.fB (f := fd) (List.mem_of_getElem? hfd)); omega
  rintro e w15 ⟨rfl, hp15⟩
  refine ⟨_, _, _, _, rfl, stA_fill (hp15.blk hb11) bs28.symm rfl rfl fun w16 hb16 hf16 hs16 => ?_⟩
  have h15 := h11.pu hp15
  have h16 : Held w w16 d val := ⟨h15.at_.fr hf16 fun b hb e => hb (by rw [show b = w.heap.size from e]; exact ho), h15.fr.trans hf16 fun i hi hlt => by have hi : i = w.heap.size := hi; omega⟩
  refine Br.of (fun c3 => ?_) (fun c3 => ?_)
  · have c3 := bntrue c3
    exact bad _ h16 (by rw [eC, if_pos c3]) c3
  · have c3 := bnfalse c3
    rw [if_neg (by simp [c3])] at eC
    have ho7 : d.o w7.heap.size = none := h.bd.out (by omega)
    have hc16 : w16.heap[w7.heap.size]? = some (.cells #[.int .i64 (i : Int)] 3) := by
      have := hf16.blk (hp15.blk hc11) (by show ¬ w7.heap.size = w.heap.size; omega)
      rw [this, eK]; rfl
    have hcap : CapOk (.set i (fitS fd d.page v).1) 54 #[.pointer (some ⟨w.heap.size, 0, none⟩), .pointer (some ⟨w7.heap.size, 0, none⟩)] w16 (Own d) := ⟨rfl, _, _, rfl, hb16, hc16, fun e => e ho, fun e => e ho7⟩
    refine (alter_c h16.at_ hI hn c1 hcap fun j v' e => by cases e; exact hil).mono ?_
    rintro e w18 ⟨rfl, d', val', hL, habs⟩
    refine ⟨_, rfl, ?_⟩
    have LL := h16.dl.trans hL
    rw [← show d'.ptr = d.ptr by unfold DLay.ptr; rw [hL.ptr]]
    refine leave_left LL fun w' hL' _ _ => ⟨by rw [eC], d', val', hL', ?_⟩
    rw [habs, setS, eC]
    have e0 : (absD d val).flds = d.flds := rfl
    have e1 : (absD d val).page = d.page := rfl
    rw [e0, e1, hi]
    simp only [eD, Int.toNat_natCast]
    rfl
end Go.Proofs.YtcihcbfcgjepfaaGreatDoor

/- Desks: clean, Revert, Fall. No condition but those stated. -/
set_option maxRecDepth 100000
set_option linter.unusedVariables false
set_option linter.unusedSimpArgs false
namespace Go.Proofs.YtcihcbfcgjepfaaGreatDoor
open Go.Sh Go.RowKit
variable {w w' : World} {d d' : DLay} {val : Nat -> List Val} {mu : Int}
theorem deskC_C {u : Nat} (hu : u < 4) (r : Nat) : (deskC mu d).setIfInBounds (5 + u * 4 + 2) (.map (some r)) = deskC mu { d with C := fun v => if v = u then r else d.C v } := by
  rcases (by omega : u = 0 ∨ u = 1 ∨ u = 2 ∨ u = 3) with rfl | rfl | rfl | rfl <;> rfl
theorem deskC_ap {u : Nat} (hu : u < 4) (s : SV) : (deskC mu d).setIfInBounds (5 + u * 4 + 3) (.slice s.a s.len s.cap) = deskC mu { d with asv := fun v => if v = u then s else d.asv v } := by
  rcases (by omega : u = 0 ∨ u = 1 ∨ u = 2 ∨ u = 3) with rfl | rfl | rfl | rfl <;> rfl
def DLay.clr (d : DLay) (u r : Nat) : DLay := { d with C := fun v => if v = u then r else d.C v, asv := fun v => if v = u then ⟨none, 0, 0⟩ else d.asv v }
theorem clean_raw (hst : w.heap[d.S]? = some (.cells (deskC mu d) 93)) {l : List (Int × Int)} (hl : MapAt w intK intK d.L l) (hLS : d.L ≠ d.S) {u : Nat} (hu : u < 4) :
    Calls Tryz.prog 116 #[d.ptr, .int .i64 (u : Int), .pointer (some (uA d u))] w fun e w' => e = .returned (.tuple #[]) /\ w'.heap[d.S]? = some (.cells (deskC mu (d.clr u w.heap.size)) 93) /\ MapAt w' intK chV w.heap.size [] /\
      Fr (fun b => b = d.S ∨ b = d.L) w w' /\ ∃ l', MapAt w' intK intK d.L l' /\ ∀ k, AL.get l' k = if AL.get l k = some (u : Int) then none else AL.get l k := by
  refine F116_calls _ _ _ w _ (alE_intro fun w1 hw1 => ?_)
  have hp1 : Pu w w1 := by rw [hw1]; exact Pu.alloc w _
  have hm1 : MapAt w1 intK chV w.heap.size [] := by rw [hw1]; exact MapAt.new w _ _
  have zS : d.S < w.heap.size := blk_lt hst
  have zL := hl.lt
  have hst1 := hp1.blk hst
  rw [ptrE_some, add_def]
  refine st1_intro hst1 (by show 5 + u * 4 + 2 < 22; omega) fun w2 hw2 hb2 => ?_
  have hf2 : Fr (· = d.S) w1 w2 := by rw [hw2]; exact Fr.cell w1 _ _ _
  rw [deskC_C hu] at hb2
  rw [ptrE_some, add_def]
  refine st1_intro hb2 (by show 5 + u * 4 + 3 < 22; omega) fun w3 hw3 hb3 => ?_
  have hf3 : Fr (· = d.S) w2 w3 := by rw [hw3]; exact Fr.cell w2 _ _ _
  have hb3 : w3.heap[d.S]? = some (.cells (deskC mu (d.clr u w.heap.size)) 93) := by
    rw [hb3]
    exact congrArg (fun c => some (Obj.cells c 93)) (deskC_ap (d := { d with C := fun v => if v = u then w.heap.size else d.C v }) hu ⟨none, 0, 0⟩)
  have hf13 : Fr (· = d.S) w1 w3 := hf2.trans hf3 fun i hi _ => hi
  have hl3 : MapAt w3 intK intK d.L l := (hl.pu hp1).fr hf13 hLS
  have hm3 : MapAt w3 intK chV w.heap.size [] := hm1.fr hf13 (by omega)
  have hF3 : Fr (fun b => b = d.S ∨ b = d.L) w w3 := (Fr.pu hp1 : Fr (fun b => b = d.S ∨ b = d.L) w w1).trans hf13 fun i hi _ => .inl hi
  obtain ⟨w4, hrun, hi4, hp4, hs4⟩ := hl3.range (P := Tryz.prog) bu80
  refine ⟨some d.L, by rw [add_def, cell_blk hb3]; rfl, _, w4, hrun, ?_⟩
  have hb4 := hp4.blk hb3
  have z3 := hF3.size
  have zS3 : d.S < w3.heap.size := blk_lt hb3
  have z13 := hf13.size
  have z1 : w.heap.size < w1.heap.size := by rw [hw1]; simp
  refine loopDown l.length (fun m _ w' => ∃ todo cur : List (Int × Int), todo.length = m /\ IterAt w' intK intK w3.heap.size d.L cur todo /\ (∀ k v, AL.get todo k = some v -> AL.get l k = some v) /\
    (∀ k, AL.get cur k = if (AL.get todo k).isSome then AL.get l k else if AL.get l k = some (u : Int) then none else AL.get l k) /\ Fr (fun b => b = d.L ∨ b = w3.heap.size) w3 w' /\ w'.heap[d.S]? = some (.cells (deskC mu (d.clr u w.heap.size)) 93) /\ MapAt w' intK chV w.heap.size [])
    ⟨l, l, rfl, hi4, fun _ _ h => h, fun k => by cases e : AL.get l k <;> simp [e], Fr.pu hp4, hb4, hm3.pu hp4⟩ ?_
  rintro m J s w5 ⟨todo, cur, hm, hi, hT, hC, hf5, hb5, hm5⟩ hJ
  have zl5 : d.L < w3.heap.size := hl3.lt
  rcases hi.next (P := Tryz.prog) 0 with ⟨h0, hr⟩ | ⟨p, hp, w6, hr, hf6, hs6, hi6, hen⟩
  · left
    refine ⟨w5, hr, rfl, hb5, hm5, hF3.trans hf5 fun i hi' hlt => ?_, cur, hi.map, fun k => ?_⟩
    · rcases hi' with hi' | hi'
      · exact .inr hi'
      · omega
    · rw [hC, h0]; rfl
  · right
    refine ⟨_, _, w6, hr, _, _, w6, hen, ?_⟩
    show Br (p.2 == (u : Int)) _ _
    have hg : AL.get todo p.1 = some p.2 := AL.get_of_mem hi.nodup hp
    have hlen := AL.length_del hp hi.nodup
    have hT6 : ∀ k v, AL.get (AL.del todo p.1) k = some v -> AL.get l k = some v := fun k v hk => by
      rw [AL.get_del hi.nodup] at hk
      by_cases e : p.1 = k
      · rw [if_pos e] at hk; cases hk
      · rw [if_neg e] at hk; exact hT k v hk
    have hb6 := hf6.blk hb5 (by omega)
    have hm6 := hm5.fr hf6 (by omega)
    have hf36 : Fr (fun b => b = d.L ∨ b = w3.heap.size) w3 w6 := hf5.trans hf6 fun i hi _ => .inr hi
    have hlp := hT _ _ hg
    refine Br.of (fun c => ?_) (fun c => ?_)
    · have c := btrue c
      obtain ⟨w7, hd, hi7, hf7, hs7⟩ := hi6.drop (P := Tryz.prog) (r0 := 0) (tys := #[80, 3]) keysK rfl bu80 (x := p.1) (by rw [← AL.get_none, AL.get_del hi.nodup, if_pos rfl])
      refine ⟨some d.L, by rw [add_def, cell_blk hb6]; rfl, w7, hd, ?_⟩
      refine hJ (m - 1) _ _ (by omega) ⟨AL.del todo p.1, AL.del cur p.1, by omega, hi7, hT6, fun k => ?_, hf36.trans hf7 fun i hi _ => .inl hi, hf7.blk hb6 (Ne.symm hLS), hm6.fr hf7 (by omega)⟩
      rw [AL.get_del hi6.map.nodup, AL.get_del hi.nodup]
      by_cases e : p.1 = k
      · subst e
        simp [hlp, c]
      · simp only [if_neg e]; exact hC k
    · have c := bfalse c
      refine hJ (m - 1) _ _ (by omega) ⟨AL.del todo p.1, cur, by omega, hi6, hT6, fun k => ?_, hf36, hb6, hm6⟩
      rw [AL.get_del hi.nodup, hC]
      by_cases e : p.1 = k
      · subst e
        simp [hlp, hg, c]
      · simp only [if_neg e]
end Go.Proofs.YtcihcbfcgjepfaaGreatDoor

/- Desks: Revert, Fall. No condition but those stated. -/
set_option maxRecDepth 100000
set_option linter.unusedVariables false
set_option linter.unusedSimpArgs false
namespace Go.Proofs.YtcihcbfcgjepfaaGreatDoor
open Go.Sh Go.RowKit
variable {w w' : World} {d d' : DLay} {val : Nat -> List Val} {mu : Int}
theorem Inv.chl (h : Inv (absD d val)) {u : Nat} (hu : u < 4) : (d.ch u).length <= 300 := by
  have h1 := h.cn u hu
  have h2 : ∀ k ∈ ((absD d val).us u).ch.map Prod.fst, k ∈ (List.range (absD d val).recs.length).map fun (i : Nat) => (i : Int) + 1 := fun k hk => by
    obtain ⟨c, hc, rfl⟩ := List.mem_map.1 hk
    have := (h.gc u hu c hc).2
    exact List.mem_map.2 ⟨(c.1 - 1).toNat, List.mem_range.2 (by omega), by omega⟩
  have h3 := List.Nodup.length_le_of_subset h1 h2
  have h4 := h.r300
  simp only [List.length_map, List.length_range] at h3
  have h5 : ((absD d val).us u).ch.length = (d.ch u).length := ch_len
  omega
end Go.Proofs.YtcihcbfcgjepfaaGreatDoor
