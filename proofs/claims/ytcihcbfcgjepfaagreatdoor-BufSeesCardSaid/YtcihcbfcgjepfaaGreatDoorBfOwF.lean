import Derived.Test.YtcihcbfcgjepfaaGreatDoorBfOwE
import Derived.Test.YtcihcbfcgjepfaaGreatDoorBfPrB
/- Desks: what holds of a desk holds behind each call. No condition but those stated. -/
set_option linter.unusedVariables false
set_option linter.unusedSimpArgs false
namespace Go.Proofs.YtcihcbfcgjepfaaGreatDoor
open Go.Sh Go.RowKit Tryz
variable {σ : Dsk} {u : Nat}
def Dsk.put (σ : Dsk) (u : Nat) (recs : List Rec) (x : Usr) (lk : Int -> Option Int) : Dsk := ({ σ with recs := recs, lk := lk } : Dsk).setU u x
theorem Inv.chg (h : Inv σ) (hu : u < 4) {recs : List Rec} {x : Usr} {lk : Int -> Option Int} (hr : ∀ r ∈ recs, zQB σ.flds σ.page r = 0) (hlen : σ.recs.length <= recs.length) (ha : ∀ r ∈ x.ap, zQB σ.flds σ.page r = 0)
  (hc : ∀ c ∈ x.ch, (zQB σ.flds σ.page c.2.1 = 0 /\ zQB σ.flds σ.page c.2.2 = 0) /\ 1 <= c.1 /\ c.1 <= recs.length) (hn : (x.ch.map Prod.fst).Nodup) (hat : x.at_ <= recs.length /\ -x.at_ <= x.ap.length)
  (hrw : x.rows = true -> x.ap ≠ [] -> x.ap.length = 1 /\ x.at_ = -1) (hN : recs.length + x.ap.length <= σ.recs.length + (σ.us u).ap.length ∨ (allN σ < 300 /\ recs.length + x.ap.length <= σ.recs.length + (σ.us u).ap.length + 1))
  (hl : ∀ k v, lk k = some v -> 1 <= k /\ k <= recs.length /\ 0 <= v /\ v < 4) : Inv (σ.put u recs x lk) := by
 have us : ∀ v, (σ.put u recs x lk).us v = if v = u then x else σ.us v := fun v => rfl
 refine ⟨h.pg, h.vf, hr, fun v hv r hr' => ?_, fun v hv c hc' => ?_, fun v hv => ?_, fun v hv => ?_, fun v hv h1 h2 => ?_, ?_, hl⟩
 ·rw [us] at hr'
  by_cases e : v = u
  ·rw [if_pos e] at hr'; exact ha r hr'
  ·rw [if_neg e] at hr'; exact h.ga v hv r hr'
 ·rw [us] at hc'
  by_cases e : v = u
  ·rw [if_pos e] at hc'; exact hc c hc'
  ·rw [if_neg e] at hc'
   have h1 := h.gc v hv c hc'
   exact ⟨h1.1, h1.2.1, by show c.1 <= (recs.length : Int); omega⟩
 ·rw [us]
  by_cases e : v = u
  ·rw [if_pos e]; exact hn
  ·rw [if_neg e]; exact h.cn v hv
 ·rw [us]
  by_cases e : v = u
  ·rw [if_pos e]; exact hat
  ·rw [if_neg e]
   have h1 := h.at_ v hv
   exact ⟨by show (σ.us v).at_ <= (recs.length : Int); omega, h1.2⟩
 ·rw [us] at h1 h2 ⊢
  by_cases e : v = u
  ·rw [if_pos e] at h1 h2 ⊢; exact hrw h1 h2
  ·rw [if_neg e] at h1 h2 ⊢; exact h.rw_ v hv h1 h2
 ·have h1 := h.nn
  unfold allN at h1 hN ⊢
  simp only [us]
  have eR : (σ.put u recs x lk).recs = recs := rfl
  rw [eR]
  rcases (by omega : u = 0 ∨ u = 1 ∨ u = 2 ∨ u = 3) with rfl | rfl | rfl | rfl <;> simp <;> omega
theorem zJu (x : Usr) : σ.setU u x = σ.put u σ.recs x σ.lk := rfl
theorem Inv.mode (h : Inv σ) (v m : Int) : Inv (modeS v m σ) := by
 unfold modeS
 split
 ·next hc =>
  unfold modeC at hc
  split at hc
  ·cases hc
  ·next hv =>
   split at hc
   ·cases hc
   ·split at hc
    ·cases hc
    ·next he =>
     have hv : isU v = true := by simpa using hv
     have hu : v.toNat < 4 := by simp [isU] at hv; omega
     have he : (σ.us v.toNat).emp = true := by simpa using he
     have hap : (σ.us v.toNat).ap = [] := by
      simp [Usr.emp] at he; exact he.2
     rw [zJu]
     refine h.chg hu h.gr (Nat.le_refl _) (h.ga _ hu) (h.gc _ hu) (h.cn _ hu) (h.at_ _ hu) (fun _ e => absurd hap e) (.inl (Nat.le_refl _)) h.lr
 ·exact h
theorem Inv.clean (h : Inv σ) (hu : u < 4) (hat : 0 <= (σ.us u).at_) : Inv (zX2 u σ) := by
 have e : zX2 u σ = σ.put u σ.recs { σ.us u with ch := [], ap := [] } fun k => if σ.lk k = some (u : Int) then none else σ.lk k := rfl
 rw [e]
 refine h.chg hu h.gr (Nat.le_refl _) (by simp) (by simp) (by simp) ⟨(h.at_ u hu).1, by simp; omega⟩ (by simp) (.inl (by simp)) fun k v hk => ?_
 split at hk
 ·cases hk
 ·exact h.lr k v hk
theorem zWh (h : Inv σ) (hu : u < 4) : ∀ r ∈ zXb (σ.us u).ch σ.recs, zQB σ.flds σ.page r = 0 := fun r hr => by
 obtain ⟨i, hi⟩ := List.getElem?_of_mem hr
 unfold zXb at hi
 rw [List.getElem?_mapIdx] at hi
 obtain ⟨r0, h0, e⟩ := Option.map_eq_some_iff.1 hi
 have g0 := h.gr r0 (List.mem_of_getElem? h0)
 cases hg : AL.get (σ.us u).ch ((i : Int) + 1) with
 | none => rw [hg] at e; rw [← e]; exact g0
 | some c =>
  rw [hg] at e
  rw [← e]
  exact yQ0 (h.gc u hu _ (AL.get_mem hg)).1.2 g0
theorem Inv.stored (h : Inv σ) (hu : u < 4) : Inv (storedS u σ) := by
 have hat := h.at_ u hu
 have e : storedS u σ = σ.put u (zXb (σ.us u).ch σ.recs ++ (σ.us u).ap) { σ.us u with at_ := if (σ.us u).at_ < 0 then (σ.recs.length : Int) - (σ.us u).at_ else (σ.us u).at_, ch := [], ap := [] } fun k => if σ.lk k = some (u : Int) then none else σ.lk k := by
  simp only [storedS, zX2, Dsk.put, Dsk.setU, Dsk.mk.injEq, true_and, and_true]
  funext v
  by_cases e : v = u
  ·simp [e]
  ·simp [e]
 rw [e]
 refine h.chg hu (fun r hr => ?_) (by rw [List.length_append, zXj]; omega) (by simp) (by simp) (by simp) ⟨?_, ?_⟩ (by simp) (.inl (by rw [List.length_append, zXj]; simp)) fun k v hk => ?_
 ·rcases List.mem_append.1 hr with hr | hr
  ·exact zWh h hu r hr
  ·exact h.ga u hu r hr
 ·rw [List.length_append, zXj]
  show (if (σ.us u).at_ < 0 then (σ.recs.length : Int) - (σ.us u).at_ else (σ.us u).at_) <= _
  split <;> omega
 ·show -(if (σ.us u).at_ < 0 then (σ.recs.length : Int) - (σ.us u).at_ else (σ.us u).at_) <= 0
  split <;> omega
 ·rw [List.length_append, zXj]
  split at hk
  ·cases hk
  ·have := h.lr k v hk; omega
theorem Inv.store (h : Inv σ) (hu : u < 4) (f : Bool) : Inv (storeS u f σ) := by
 unfold storeS; split
 ·exact h.stored hu
 ·exact h
theorem Inv.storeE (h : Inv σ) (v : Int) (f : Bool) : Inv (storeES v f σ) := by
 unfold storeES; split
 ·next hv => exact h.store (by simp [isU] at hv; omega) f
 ·exact h
theorem Inv.leave (h : Inv σ) (hu : u < 4) : Inv (leaveS u σ) := by
 unfold leaveS; split
 ·exact h
 ·exact h.store hu false
theorem yJN (u : Nat) (σ : Dsk) : ((storedS u σ).us u).ap = [] /\ ((storedS u σ).us u).ch = [] := by simp [storedS, zX2, Dsk.setU]
theorem yQG (u : Nat) (σ : Dsk) : ((storedS u σ).us u).mode = (σ.us u).mode := by simp [storedS, zX2, Dsk.setU]
theorem yZx (u : Nat) (σ : Dsk) : ((leaveS u σ).us u).mode = (σ.us u).mode := by
 unfold leaveS storeS
 split
 ·rfl
 ·split
  ·exact yQG u σ
  ·rfl
theorem zYG (h : leaveC u σ = 0) (hr : (σ.us u).rows = true) : ((leaveS u σ).us u).emp = true := by
 unfold leaveC at h
 unfold leaveS
 split
 ·next he =>
  rcases he with he | he
  ·rw [hr] at he; cases he
  ·exact he
 ·next he =>
  rw [if_neg he] at h
  rw [storeS, if_pos h]
  obtain ⟨a, b⟩ := yJN u σ
  simp [Usr.emp, a, b]
theorem yWM (u : Nat) (σ : Dsk) : σ.recs.length <= (leaveS u σ).recs.length := by
 unfold leaveS storeS
 split
 ·exact Nat.le_refl _
 ·split
  ·show _ <= (zXb (σ.us u).ch σ.recs ++ (σ.us u).ap).length
   rw [List.length_append, zXj]; omega
  ·exact Nat.le_refl _
theorem zJt (h : leaveC u σ ≠ 0) : leaveS u σ = σ := by
 unfold leaveC at h
 unfold leaveS
 split
 ·rfl
 ·next he =>
  rw [if_neg he] at h
  rw [storeS, if_neg h]
theorem yJR {x y : Usr} (h : x.mode = y.mode) : x.rows = y.rows := by simp [Usr.rows, h]
theorem yYP {x : Usr} (h : x.emp = true) : x.ap = [] := by simp [Usr.emp] at h; exact h.2
theorem Inv.go (h : Inv σ) (v k : Int) : Inv (goS v k σ) := by
 unfold goS
 split
 ·exact h
 ·next hc =>
  have hc : goC v k σ = 0 := by simpa using hc
  unfold goC at hc
  split at hc
  ·cases hc
  ·next hv =>
   have hv : isU v = true := by simpa using hv
   have hu : v.toNat < 4 := by simp [isU] at hv; omega
   split at hc
   ·cases hc
   ·next hs =>
    generalize v.toNat = u at *
    have hin : (k < 0 -> -k <= (σ.us u).ap.length) /\ k <= σ.recs.length := by
     unfold seenR at hs
     by_cases hk : k < 0
     ·rw [if_pos hk] at hs
      refine ⟨fun _ => ?_, by omega⟩
      by_cases e : (-k - 1).toNat < (σ.us u).ap.length
      ·omega
      ·rw [List.getElem?_eq_none (by omega)] at hs; exact absurd rfl hs
     ·rw [if_neg hk] at hs
      refine ⟨fun e => absurd e hk, ?_⟩
      by_cases e : k < 1 ∨ k > σ.recs.length
      ·rw [if_pos e] at hs; exact absurd rfl hs
      ·omega
    simp only
    by_cases e : k = (σ.us u).at_
    ·rw [if_pos e]
     rw [zJu]
     refine h.chg hu h.gr (Nat.le_refl _) (h.ga _ hu) (h.gc _ hu) (h.cn _ hu) ?_ (fun h1 h2 => ?_) (.inl (Nat.le_refl _)) h.lr
     ·have := h.at_ u hu
      rw [← e] at this; exact this
     ·have := h.rw_ u hu h1 h2
      exact ⟨this.1, by show k = -1; rw [e]; exact this.2⟩
    ·rw [if_neg e] at hc ⊢
     have h' := h.leave hu
     rw [zJu]
     have hlen := yWM u σ
     by_cases hr : (σ.us u).rows = true
     ·have he := yYP (zYG hc hr)
      have hk : ¬ k < 0 := fun hk => by
       have h1 := hin.1 hk
       have hne : (σ.us u).ap ≠ [] := fun e => by rw [e] at h1; simp at h1; omega
       have h2 := h.rw_ u hu hr hne
       omega
      refine h'.chg hu h'.gr (Nat.le_refl _) (h'.ga _ hu) (h'.gc _ hu) (h'.cn _ hu) ⟨?_, ?_⟩ (fun _ e => absurd he e) (.inl (Nat.le_refl _)) h'.lr
      ·show k <= _; omega
      ·show -k <= _; omega
     ·have hr : (σ.us u).rows = false := by simpa using hr
      have hl : leaveS u σ = σ := by rw [leaveS, if_pos (.inl hr)]
      rw [hl] at h' ⊢
      refine h'.chg hu h'.gr (Nat.le_refl _) (h'.ga _ hu) (h'.gc _ hu) (h'.cn _ hu) ⟨?_, ?_⟩ (fun h1 _ => ?_) (.inl (Nat.le_refl _)) h'.lr
      ·show k <= _; exact hin.2
      ·show -k <= _
       by_cases hk : k < 0
       ·exact hin.1 hk
       ·omega
      ·have : (σ.us u).rows = true := h1
       rw [hr] at this; cases this
theorem zYR (h : Inv σ) : zQB σ.flds σ.page (blankR σ) = 0 := yQq (zQE h.vf).2.1 _
theorem Inv.app (h : Inv σ) (v : Int) : Inv (appS v σ) := by
 unfold appS
 split
 ·exact h
 ·next hv =>
  have hv : isU v = true := by simpa using hv
  have hu : v.toNat < 4 := by simp [isU] at hv; omega
  generalize v.toNat = u at *
  have h' := h.leave hu
  split
  ·exact h
  ·next hc =>
   have hc : leaveC u σ = 0 := by simpa using hc
   split
   ·exact h'
   ·next hn =>
    have he : (σ.us u).rows = true -> ((leaveS u σ).us u).ap = [] := fun hr => yYP (zYG hc hr)
    have hm := yJR (yZx u σ)
    generalize leaveS u σ = τ at *
    have hb := zYR h'
    unfold appendedS
    split
    ·have e : ({ τ with recs := τ.recs ++ [blankR τ] } : Dsk).setU u { τ.us u with at_ := (τ.recs.length : Int) + 1 } = τ.put u (τ.recs ++ [blankR τ]) { τ.us u with at_ := (τ.recs.length : Int) + 1 } τ.lk := rfl
     rw [e]
     refine h'.chg hu (fun r hr => ?_) (by simp) (h'.ga u hu) (fun c hc => ?_) (h'.cn u hu) ⟨by simp, ?_⟩ (fun h1 h2 => ?_) (.inr ⟨by omega, by simp; omega⟩) (fun k v hk => ?_)
     ·rcases List.mem_append.1 hr with hr | hr
      ·exact h'.gr r hr
      ·simp at hr; rw [hr]; exact hb
     ·have := h'.gc u hu c hc
      exact ⟨this.1, this.2.1, by rw [List.length_append]; simp; omega⟩
     ·show -((τ.recs.length : Int) + 1) <= _; omega
     ·have h3 : (τ.us u).rows = true := h1
      rw [hm] at h3
      exact absurd (he h3) h2
     ·have := h'.lr k v hk
      rw [List.length_append]; simp; omega
    ·rw [zJu]
     refine h'.chg hu h'.gr (Nat.le_refl _) (fun r hr => ?_) (h'.gc u hu) (h'.cn u hu) ⟨?_, ?_⟩ (fun h1 h2 => ?_) (.inr ⟨by omega, by simp; omega⟩) h'.lr
     ·rcases List.mem_append.1 hr with hr | hr
      ·exact h'.ga u hu r hr
      ·simp at hr; rw [hr]; exact hb
     ·show -((τ.us u).ap.length : Int) - 1 <= _; omega
     ·show -(-((τ.us u).ap.length : Int) - 1) <= (((τ.us u).ap ++ [blankR τ]).length : Int); simp; omega
     ·have h3 : (τ.us u).rows = true := h1
      rw [hm] at h3
      have h4 := he h3
      show ((τ.us u).ap ++ [blankR τ]).length = 1 /\ -((τ.us u).ap.length : Int) - 1 = -1
      rw [h4]; exact ⟨rfl, rfl⟩
end Go.Proofs.YtcihcbfcgjepfaaGreatDoor
/- Desks: what holds of a desk holds behind Set, Mark, Revert, Fall. No condition but those stated. -/
namespace Go.Proofs.YtcihcbfcgjepfaaGreatDoor
open Go.Sh Go.RowKit Tryz
variable {σ : Dsk} {u : Nat}
theorem yKa {κ ν : Type} [DecidableEq κ] : ∀ {l : List (κ × ν)} {k : κ} {v : ν} {p : κ × ν}, p ∈ AL.put l k v -> p ∈ l ∨ p = (k, v)
 | [], k, v, p, h => by simp [AL.put] at h; exact .inr h
 | (a, b) :: l, k, v, p, h => by
  simp only [AL.put] at h
  by_cases e : a = k
  ·rw [if_pos e] at h
   rcases List.mem_cons.1 h with h | h
   ·right; rw [h, e]
   ·exact .inl (List.mem_cons_of_mem _ h)
  ·rw [if_neg e] at h
   rcases List.mem_cons.1 h with h | h
   ·left; rw [h]; exact List.mem_cons_self ..
   ·rcases yKa h with h | h
    ·exact .inl (List.mem_cons_of_mem _ h)
    ·exact .inr h
theorem zKu {α : Type} {f : α -> α} : ∀ {l : List α} {i : Nat} {x : α}, x ∈ l.modify i f -> x ∈ l ∨ ∃ y ∈ l, x = f y
 | [], i, x, h => by simp at h
 | y :: l, 0, x, h => by
  rw [List.modify_zero_cons] at h
  rcases List.mem_cons.1 h with h | h
  ·exact .inr ⟨y, List.mem_cons_self .., h⟩
  ·exact .inl (List.mem_cons_of_mem _ h)
 | y :: l, i + 1, x, h => by
  rw [List.modify_succ_cons] at h
  rcases List.mem_cons.1 h with h | h
  ·left; rw [h]; exact List.mem_cons_self ..
  ·rcases zKu h with h | ⟨z, hz, h⟩
   ·exact .inl (List.mem_cons_of_mem _ h)
   ·exact .inr ⟨z, List.mem_cons_of_mem _ hz, h⟩
theorem yZp (recs : List Rec) (lk : Int -> Option Int) : σ.put u recs (σ.us u) lk = { σ with recs := recs, lk := lk } := by
 simp only [Dsk.put, Dsk.setU, Dsk.mk.injEq, true_and, and_true]
 funext v
 by_cases e : v = u
 ·rw [if_pos e, e]
 ·rw [if_neg e]
theorem yZF (h : Inv σ) {k : Int} (h1 : 1 <= k) (h2 : k <= σ.recs.length) : zQB σ.flds σ.page (recK σ k) = 0 := by
 obtain ⟨r, hr⟩ := zXg (l := σ.recs) (k := (k - 1).toNat) (by omega)
 have : recK σ k = r := by unfold recK; rw [List.getD_eq_getElem?_getD, hr]; rfl
 rw [this]; exact h.gr r (List.mem_of_getElem? hr)
theorem Inv.alter (h : Inv σ) (hu : u < 4) (h0 : (σ.us u).at_ ≠ 0) {f : Rec -> Rec} (hf : ∀ r, zQB σ.flds σ.page r = 0 -> zQB σ.flds σ.page (f r) = 0) : Inv (alterS u f σ) := by
 have hat := h.at_ u hu
 simp only [alterS]
 by_cases c1 : (σ.us u).at_ < 0
 ·rw [if_pos c1, zJu]
  refine h.chg hu h.gr (Nat.le_refl _) (fun r hr => ?_) (h.gc u hu) (h.cn u hu) ⟨hat.1, by simpa using hat.2⟩ (fun h1 h2 => ?_) (.inl (by simp)) h.lr
  ·rcases zKu hr with hr | ⟨y, hy, rfl⟩
   ·exact h.ga u hu r hr
   ·exact hf y (h.ga u hu y hy)
  ·have hne : (σ.us u).ap ≠ [] := fun e => h2 (by simp [e])
   have := h.rw_ u hu h1 hne
   exact ⟨by simpa using this.1, this.2⟩
 rw [if_neg c1]
 by_cases c2 : (σ.us u).mode = 0
 ·rw [if_pos c2]
  have e := yZp (σ := σ) (u := u) (σ.recs.modify ((σ.us u).at_ - 1).toNat f) σ.lk
  rw [show ({ σ with recs := σ.recs.modify ((σ.us u).at_ - 1).toNat f } : Dsk) = { σ with recs := σ.recs.modify ((σ.us u).at_ - 1).toNat f, lk := σ.lk } from rfl, ← e]
  refine h.chg hu (fun r hr => ?_) (by simp) (h.ga u hu) (by simpa using h.gc u hu) (h.cn u hu) (by simpa using hat) (h.rw_ u hu) (.inl (by simp)) (by simpa using h.lr)
  rcases zKu hr with hr | ⟨y, hy, rfl⟩
  ·exact h.gr r hr
  ·exact hf y (h.gr y hy)
 ·rw [if_neg c2]
  have hk1 : 1 <= (σ.us u).at_ := by omega
  have hL : ∃ lk', lockS u σ = { σ with lk := lk' } /\ ∀ k v, lk' k = some v -> 1 <= k /\ k <= σ.recs.length /\ 0 <= v /\ v < 4 := by
   simp only [lockS]
   split
   ·exact ⟨σ.lk, rfl, h.lr⟩
   ·refine ⟨_, rfl, fun k v hk => ?_⟩
    split at hk
    ·next e => cases hk; omega
    ·exact h.lr k v hk
  obtain ⟨lk', eL, hl⟩ := hL
  rw [eL]
  have e : ({ σ with lk := lk' } : Dsk).setU u { σ.us u with ch := AL.put (σ.us u).ch (σ.us u).at_ (((AL.get (σ.us u).ch (σ.us u).at_).getD (recK σ (σ.us u).at_, recK σ (σ.us u).at_)).1, f ((AL.get (σ.us u).ch (σ.us u).at_).getD (recK σ (σ.us u).at_, recK σ (σ.us u).at_)).2) }
   = σ.put u σ.recs { σ.us u with ch := AL.put (σ.us u).ch (σ.us u).at_ (((AL.get (σ.us u).ch (σ.us u).at_).getD (recK σ (σ.us u).at_, recK σ (σ.us u).at_)).1, f ((AL.get (σ.us u).ch (σ.us u).at_).getD (recK σ (σ.us u).at_, recK σ (σ.us u).at_)).2) } lk' := rfl
  rw [e]
  have hg : zQB σ.flds σ.page ((AL.get (σ.us u).ch (σ.us u).at_).getD (recK σ (σ.us u).at_, recK σ (σ.us u).at_)).1 = 0 /\ zQB σ.flds σ.page ((AL.get (σ.us u).ch (σ.us u).at_).getD (recK σ (σ.us u).at_, recK σ (σ.us u).at_)).2 = 0 := by
   have hr := yZF h hk1 hat.1
   cases hg : AL.get (σ.us u).ch (σ.us u).at_ with
   | none => exact ⟨hr, hr⟩
   | some c => exact (h.gc u hu _ (AL.get_mem hg)).1
  refine h.chg hu h.gr (Nat.le_refl _) (h.ga u hu) (fun c hc => ?_) (AL.nodup_put (h.cn u hu) _ _) hat (h.rw_ u hu) (.inl (Nat.le_refl _)) hl
  rcases yKa hc with hc | rfl
  ·exact h.gc u hu c hc
  ·exact ⟨⟨hg.1, hf _ hg.2⟩, hk1, hat.1⟩
theorem Inv.set (h : Inv σ) (v : Int) (field : ByteArray) (x : Val) : Inv (setS v field x σ) := by
 unfold setS
 split
 ·next hc =>
  unfold setC at hc
  split at hc
  ·cases hc
  ·next hv =>
   have hv : isU v = true := by simpa using hv
   have hu : v.toNat < 4 := by simp [isU] at hv; omega
   split at hc
   ·cases hc
   ·next h0 =>
    cases hi : zKH σ.flds field with
    | none => exact h
    | some i =>
     rw [hi] at hc
     simp only at hc ⊢
     split at hc
     ·next hne => exact absurd hc hne
     ·next he =>
      have he : (zZ9 (σ.flds.getD i default) σ.page x).2 = 0 := by simpa using he
      refine h.alter hu h0 fun r hr => yWp hr fun f hf => ?_
      rw [List.getD_eq_getElem?_getD, hf]
      rw [List.getD_eq_getElem?_getD, hf] at he
      exact yVz he
 ·exact h
theorem Inv.mark (h : Inv σ) (v : Int) (g : Bool) : Inv (markS v g σ) := by
 unfold markS
 split
 ·next hc =>
  unfold markC at hc
  split at hc
  ·cases hc
  ·next hv =>
   have hv : isU v = true := by simpa using hv
   have hu : v.toNat < 4 := by simp [isU] at hv; omega
   split at hc
   ·cases hc
   ·next h0 => exact h.alter hu h0 fun r hr => yZb hr g
 ·exact h
theorem Inv.revU (h : Inv σ) (hu : u < 4) : Inv (revertU u σ) := by
 have hat := h.at_ u hu
 have e : revertU u σ = σ.put u σ.recs { σ.us u with at_ := if (σ.us u).at_ < 0 then 0 else (σ.us u).at_, ch := [], ap := [] } fun k => if σ.lk k = some (u : Int) then none else σ.lk k := by
  simp only [revertU, zX2, Dsk.put, Dsk.setU, Dsk.mk.injEq, true_and, and_true]
  funext v
  by_cases e : v = u
  ·simp [e]
  ·simp [e]
 rw [e]
 refine h.chg hu h.gr (Nat.le_refl _) (by simp) (by simp) (by simp) ⟨?_, ?_⟩ (by simp) (.inl (by simp)) fun k v hk => ?_
 ·show (if (σ.us u).at_ < 0 then 0 else (σ.us u).at_) <= _; split <;> omega
 ·show -(if (σ.us u).at_ < 0 then 0 else (σ.us u).at_) <= 0; split <;> omega
 ·split at hk
  ·cases hk
  ·exact h.lr k v hk
theorem Inv.revert (h : Inv σ) (v : Int) : Inv (revertS v σ) := by
 unfold revertS; split
 ·next hv => exact h.revU (by simp [isU] at hv; omega)
 ·exact h
theorem Inv.fall (h : Inv σ) (v : Int) : Inv (fallS v σ) := by
 unfold fallS; split
 ·next hv =>
  have hu : v.toNat < 4 := by simp [isU] at hv; omega
  have h' := h.revU hu
  generalize v.toNat = u at *
  have ea : ((revertU u σ).us u).ap = [] := by simp [revertU, zX2, Dsk.setU]
  simp only
  rw [zJu]
  refine h'.chg hu h'.gr (Nat.le_refl _) (h'.ga u hu) (h'.gc u hu) (h'.cn u hu) ⟨by show (0 : Int) <= _; omega, by show -(0 : Int) <= _; omega⟩ (fun _ e => absurd ea e) (.inl (Nat.le_refl _)) h'.lr
 ·exact h
end Go.Proofs.YtcihcbfcgjepfaaGreatDoor
/- Desks: Go. No condition but those stated. -/
set_option maxRecDepth 100000
namespace Go.Proofs.YtcihcbfcgjepfaaGreatDoor
open Go.Sh Go.RowKit Tryz
variable {w w' : World} {d d' : zQr} {val : Nat -> List Val} {mu : Int}
theorem go_c (h : zQh w d 0 val) (hI : Inv (zQa d val)) (u k : Int) :
  Calls prog 15 #[d.ptr, .int .i64 u, .int .i64 k] w fun e w' => e = .returned (.int .i64 (goC u k (zQa d val))) /\ ∃ d' val', zQ4 w w' d d' 0 val' /\ zQa d' val' = goS u k (zQa d val) := by
 refine yJo _ u k w _ ((zQM h (Pu.refl w) u).mono ?_)
 rintro e w2 ⟨rfl, h2, hf2, hs2⟩
 have bad : ∀ {w3 : World} (n : Int), zYW w w3 d val -> goC u k (zQa d val) = n -> n ≠ 0 -> zQd prog [zXw d] w3 fun w' => Ending.returned (.int .i64 n) = .returned (.int .i64 (goC u k (zQa d val))) /\ ∃ d' val', zQ4 w w' d d' 0 val' /\ zQa d' val' = goS u k (zQa d val) := fun {w3} n h3 hn h0 =>
  h3.left fun w' hL _ _ => ⟨by rw [hn], d, val, hL, by rw [goS, if_pos (by rw [hn]; exact h0)]⟩
 refine ⟨_, _, _, rfl, Br.of (fun c => ?_) (fun c => ?_)⟩
 ·have hu := zJW c
  have e1 : uC u = 1 := by rw [uC, if_neg hu]
  rw [e1]
  exact bad 1 h2 (by rw [goC, if_pos hu]) (by decide)
 have hu := zJM c
 obtain ⟨n, rfl, hn⟩ := zQS hu
 rw [zKL hn]
 have eA : ((zQa d val).us n).at_ = d.at_ n := rfl
 refine (yW7 h2.at_ hn k (by have := hI.ah hn; omega) (by have := hI.rh; omega)).mono ?_
 rintro e w3 ⟨rfl, hp3⟩
 refine ⟨_, ((zXn d n k).getD h0).s, _, rfl, alB fun w4 hp4 hb4 => zQl hb4 yQw.symm rfl rfl fun w5 hb5 hf5 _ => ?_⟩
 have hp25 : Pu w2 w5 := (hp3.trans hp4).andNew hf5 fun i hi => by rw [show i = w3.heap.size from hi]; exact hp3.size
 have h5 := h2.pu hp25
 have es : seenR (zQa d val) n k = (zXn d n k).map (toR val) := (zJH d val n k).symm
 have e0 : goC (n : Int) k (zQa d val) = if seenR (zQa d val) n k = none then 4 else if k = d.at_ n then 0 else leaveC n (zQa d val) := by
  rw [goC, if_neg (by simp [hu]), zQL, eA]
 refine Br.of (fun c1 => ?_) (fun c1 => ?_)
 ·have c1 : zXn d n k = none := by simpa using c1
  exact bad 4 h5 (by rw [e0, es, c1]; rfl) (by decide)
 have c1 : (zXn d n k).isSome = true := by simpa using c1
 obtain ⟨x, hx⟩ := Option.isSome_iff_exists.1 c1
 rw [es, hx, if_neg (by simp)] at e0
 -- the end, behind leaving
 have fin : ∀ {w8 : World} {d8 : zQr} {val8 : Nat -> List Val}, zQ4 w w8 d d8 1 val8 -> goC (n : Int) k (zQa d val) = 0 -> zQa d8 val8 = (if k = d.at_ n then zQa d val else leaveS n (zQa d val)) ->
   zQi (some (uA d n)) fun a10 => st1 (a10.add 1) (.int .i64 k) w8 fun w11 => zQd prog [zXw d] w11 fun w12 => Ending.returned (.int .i64 0) = .returned (.int .i64 (goC (n : Int) k (zQa d val))) /\ ∃ d' val', zQ4 w w12 d d' 0 val' /\ zQa d' val' = goS n k (zQa d val) := fun {w8 d8 val8} L8 hc hab => by
  have eu : uA d n = uA d8 n := by show (⟨d.S, _, _⟩ : Addr) = ⟨d8.S, _, _⟩; rw [L8.ptr]
  rw [zQ9, eu, zQe]
  refine L8.sys.own (d' := d8.withAt n k) (mu' := 1) (by omega) (zJ1 hn k) rfl rfl (fun x hb => hb.same _ _) fun w11 h11 hf11 hs11 => ?_
  have L11 : zQ4 w w11 d (d8.withAt n k) 1 val8 := L8.trans ⟨h11, hf11.mono fun i hi _ => by rw [show i = d8.S from hi, L8.sys.bd.oS]; simp, fun _ h => .inl h, rfl⟩
  rw [← show zXw (d8.withAt n k) = zXw d by unfold zXw zQr.ptr; rw [L11.ptr]]
  refine zQW L11 fun w' hL _ _ => ⟨by rw [hc], _, _, hL, ?_⟩
  have eG : goS (n : Int) k (zQa d val) = (if k = d.at_ n then zQa d val else leaveS n (zQa d val)).setU n { (if k = d.at_ n then zQa d val else leaveS n (zQa d val)).us n with at_ := k } := by
   rw [goS, if_neg (by rw [hc]; simp)]
   simp only [zQL, eA]
  rw [zVu, hab, eG]
 refine ⟨d.at_ n, h5.at_.uAt hn, Br.of (fun c2 => ?_) (fun c2 => ?_)⟩
 ·have c2 : k ≠ d.at_ n := zQC c2
  rw [if_neg c2] at e0
  refine (yXy h5.at_ hI hn).mono ?_
  rintro e w8 ⟨rfl, d8, val8, hL, habs⟩
  refine ⟨_, rfl, Br.of (fun c3 => ?_) (fun c3 => ?_)⟩
  ·have c3 : leaveC n (zQa d val) ≠ 0 := zQC c3
   have LL := h5.dl.trans hL
   rw [← show d8.ptr = d.ptr by unfold zQr.ptr; rw [hL.ptr]]
   exact zQW LL fun w' hL' _ _ => ⟨by rw [e0], d8, val8, hL', by rw [habs, zJt c3, goS, if_pos (by rw [e0]; exact c3)]⟩
  ·have c3 : leaveC n (zQa d val) = 0 := zQw c3
   exact fin (h5.dl.trans hL) (by rw [e0, c3]) (by rw [habs, if_neg c2])
 ·have c2 : k = d.at_ n := zQw c2
  exact fin h5.dl (by rw [e0, if_pos c2]) (by rw [if_pos c2])
end Go.Proofs.YtcihcbfcgjepfaaGreatDoor
/- Desks: Append. No condition but those stated. -/
namespace Go.Proofs.YtcihcbfcgjepfaaGreatDoor
open Go.Sh Go.RowKit Tryz
variable {w w' : World} {d d' : zQr} {val : Nat -> List Val} {mu : Int}
theorem yQR {d : zQr} {A B : List zQy} {x : zQy} (hp : (zXf d).Perm (A ++ B)) (hnd : (vB (zXf d)).Nodup) (hx : ∀ b ∈ zQb x.s, b ∉ vB (zXf d)) : (vB (A ++ x :: B)).Nodup := by
 refine (zXA (List.perm_middle)).nodup_iff.2 ?_
 rw [zXd]
 have h1 := (zXA hp).nodup_iff.1 hnd
 refine List.nodup_append.2 ⟨zWE _, h1, fun a ha b hb e => ?_⟩
 subst e
 exact hx a ha ((zXA hp).mem_iff.2 hb)
theorem yVT (h : zQh w d 1 val) {u : Nat} (hu : u < 4) {x : zQy} {r' : SV} (at' : Int) {w5 : World} (hst : w5.heap[d.S]? = some (.cells (zQZ 1 (({ d with rs := r' } : zQr).withAt u at')) 93)) (hrow : zQj w5 77 2 r' ((d.rh ++ [x]).flatMap zJF))
  (hb : ∀ b ∈ zQb r', b ∈ zQb d.rs ∨ w.heap.size <= b) (hf : Fr (fun b => b = d.S ∨ b ∈ zQb d.rs) w w5) (hx : zQj w 28 3 x.s ((hv val x).flatMap zXH)) (hxo : ∀ b ∈ zQb x.s, d.o b = some .V) (hxn : ∀ b ∈ zQb x.s, b ∉ vB (zXf d)) :
  ∃ d', zQ4 w w5 d d' 1 val /\ zQa d' val = ({ zQa d val with recs := (zQa d val).recs ++ [toR val x] } : Dsk).setU u { (zQa d val).us u with at_ := at' } := by
 have oR := h.bd.oR
 have ne : ∀ {b : Nat} {κ : zX4}, d.o b = some κ -> κ ≠ .S -> κ ≠ .R -> ¬ (b = d.S ∨ b ∈ zQb d.rs) := fun {b κ} hb h1 h3 e => by
  rcases e with e | e
  ·rw [e, h.bd.oS] at hb; exact h1 (Option.some.inj hb).symm
  ·rw [oR b e] at hb; exact h3 (Option.some.inj hb).symm
 have up : ∀ {b : Nat} {κ : zX4}, d.o b = some κ -> κ ≠ .R -> (if b ∈ zQb r' then some zX4.R else d.o b) = some κ := fun {b κ} hbo hk => by
  have hlw : b < w.heap.size := h.bd.lt b (by rw [hbo]; simp)
  rw [if_neg fun e => ?_]
  ·exact hbo
  ·rcases hb b e with e | e
   ·rw [oR b e] at hbo; exact hk (Option.some.inj hbo).symm
   ·omega
 have hbd := h.bd.gen hu (o' := fun b => if b ∈ zQb r' then some .R else d.o b) (rs' := r') (rh' := d.rh ++ [x]) (as' := d.asv u) (ah' := d.ah u) (cs' := d.cs u) (ch' := d.ch u) (C' := d.C u) hf
  (fun b κ hbo k1 k2 k3 k4 => ⟨ne hbo k1 k2, up hbo k2⟩) (up h.bd.oS (by simp)) hrow (fun b hb2 => if_pos hb2) ((h.bd.aw u hu).fr hf fun b hb => ne (h.bd.oA u hu b hb) (by simp) (by simp)) (fun b hb => up (h.bd.oA u hu b hb) (by simp))
  (fun e => ⟨(h.bd.mp e u hu).fr hf (ne (h.bd.oC e u hu) (by simp) (by simp)), up (h.bd.oC e u hu) (by simp)⟩) (fun e => ⟨(h.bd.ml e u hu).fr hf fun b hb => ne (h.bd.oK e u hu b hb) (by simp) (by simp), fun b hb => up (h.bd.oK e u hu b hb) (by simp)⟩)
  (fun z hz => by
   simp only [List.mem_append, List.mem_singleton] at hz
   rcases hz with (hz | hz) | hz | rfl
   ·exact .inl ⟨z, zZn hu (List.mem_append_left _ hz), rfl⟩
   ·exact .inl ⟨z, zX8 hu hz, rfl⟩
   ·exact .inl ⟨z, zQK hz, rfl⟩
   ·exact .inr ⟨hx.fr hf fun b hb => ne (hxo b hb) (by simp) (by simp), fun b hb => up (hxo b hb) (by simp)⟩) (by
   have p := zJg d hu
   have e : zXa d u = d.rh ++ (zXa d u).drop d.rh.length := by simp [zXa]
   rw [e, ← List.append_assoc] at p
   have := yQR p h.bd.nd hxn
   simpa [zKM, uH, List.append_assoc] using this) (fun b hbo => by
   by_cases e2 : b ∈ zQb r'
   ·exact hrow.lt b e2
   ·rw [if_neg e2] at hbo
    exact Nat.lt_of_lt_of_le (h.bd.lt b hbo) hf.size)
 have hC : zQZ 1 ({ (d.gen u (fun b => if b ∈ zQb r' then some .R else d.o b) r' (d.rh ++ [x]) (d.asv u) (d.ah u) (d.cs u) (d.ch u) (d.C u)) with at_ := fun v => if v = u then at' else d.at_ v } : zQr) = zQZ 1 (({ d with rs := r' } : zQr).withAt u at') := by
  have e : ∀ {α : Type} (f : Nat -> α), (fun v => if v = u then f u else f v) = f := fun f => by funext v; by_cases e : v = u <;> simp [e]
  simp only [zQr.gen, e]
  rfl
 refine ⟨{ (d.gen u (fun b => if b ∈ zQb r' then some .R else d.o b) r' (d.rh ++ [x]) (d.asv u) (d.ah u) (d.cs u) (d.ch u) (d.C u)) with at_ := fun v => if v = u then at' else d.at_ v }, ⟨⟨by rw [hC]; exact hst, hbd.same d.mode (fun v => if v = u then at' else d.at_ v), h.sd⟩, hf.mono fun i hi _ => ?_, fun b hbo => ?_, rfl⟩, ?_⟩
 ·rcases hi with rfl | hi
  ·rw [h.bd.oS]; simp
  ·rw [oR i hi]; simp
 ·have hbo : (if b ∈ zQb r' then some zX4.R else d.o b) ≠ none := hbo
  by_cases e2 : b ∈ zQb r'
  ·rcases hb b e2 with h1 | h1
   ·left; rw [oR b h1]; simp
   ·right; exact h1
  ·rw [if_neg e2] at hbo; exact .inl hbo
 ·simp only [zQa, Dsk.setU, Dsk.mk.injEq]
  refine ⟨rfl, rfl, by simp [zQr.gen], ?_, rfl⟩
  funext v
  by_cases e : v = u
  ·subst e; simp [zJ2, zQr.gen]
  ·simp [zJ2, zQr.gen, e]
theorem ap_fin (h : zQh w d 1 val) {u : Nat} (hu : u < 4) {x : zQy} {r' : SV} (at' : Int) {w5 : World} (hst : w5.heap[d.S]? = some (.cells (zQZ 1 (({ d with asv := fun v => if v = u then r' else d.asv v } : zQr).withAt u at')) 93)) (hrow : zQj w5 77 2 r' ((d.ah u ++ [x]).flatMap zJF))
  (hb : ∀ b ∈ zQb r', b ∈ zQb (d.asv u) ∨ w.heap.size <= b) (hf : Fr (fun b => b = d.S ∨ b ∈ zQb (d.asv u)) w w5) (hx : zQj w 28 3 x.s ((hv val x).flatMap zXH)) (hxo : ∀ b ∈ zQb x.s, d.o b = some .V) (hxn : ∀ b ∈ zQb x.s, b ∉ vB (zXf d)) :
  ∃ d', zQ4 w w5 d d' 1 val /\ zQa d' val = (zQa d val).setU u { (zQa d val).us u with ap := ((zQa d val).us u).ap ++ [toR val x], at_ := at' } := by
 have oR := h.bd.oA u hu
 have ne : ∀ {b : Nat} {κ : zX4}, d.o b = some κ -> κ ≠ .S -> κ ≠ .A u -> ¬ (b = d.S ∨ b ∈ zQb (d.asv u)) := fun {b κ} hb h1 h3 e => by
  rcases e with e | e
  ·rw [e, h.bd.oS] at hb; exact h1 (Option.some.inj hb).symm
  ·rw [oR b e] at hb; exact h3 (Option.some.inj hb).symm
 have up : ∀ {b : Nat} {κ : zX4}, d.o b = some κ -> κ ≠ .A u -> (if b ∈ zQb r' then some (zX4.A u) else d.o b) = some κ := fun {b κ} hbo hk => by
  have hlw : b < w.heap.size := h.bd.lt b (by rw [hbo]; simp)
  rw [if_neg fun e => ?_]
  ·exact hbo
  ·rcases hb b e with e | e
   ·rw [oR b e] at hbo; exact hk (Option.some.inj hbo).symm
   ·omega
 have hbd := h.bd.gen hu (o' := fun b => if b ∈ zQb r' then some (.A u) else d.o b) (rs' := d.rs) (rh' := d.rh) (as' := r') (ah' := d.ah u ++ [x]) (cs' := d.cs u) (ch' := d.ch u) (C' := d.C u) hf
  (fun b κ hbo k1 k2 k3 k4 => ⟨ne hbo k1 k3, up hbo k3⟩) (up h.bd.oS (by simp)) (h.bd.rw_.fr hf fun b hb => ne (h.bd.oR b hb) (by simp) (by simp)) (fun b hb => up (h.bd.oR b hb) (by simp)) hrow (fun b hb2 => if_pos hb2)
  (fun e => ⟨(h.bd.mp e u hu).fr hf (ne (h.bd.oC e u hu) (by simp) (by simp)), up (h.bd.oC e u hu) (by simp)⟩) (fun e => ⟨(h.bd.ml e u hu).fr hf fun b hb => ne (h.bd.oK e u hu b hb) (by simp) (by simp), fun b hb => up (h.bd.oK e u hu b hb) (by simp)⟩)
  (fun z hz => by
   simp only [List.mem_append, List.mem_singleton] at hz
   rcases hz with (hz | hz | rfl) | hz
   ·exact .inl ⟨z, zZn hu (List.mem_append_left _ hz), rfl⟩
   ·exact .inl ⟨z, zX8 hu hz, rfl⟩
   ·exact .inr ⟨hx.fr hf fun b hb => ne (hxo b hb) (by simp) (by simp), fun b hb => up (hxo b hb) (by simp)⟩
   ·exact .inl ⟨z, zQK hz, rfl⟩) (by
   have p := zJg d hu
   have e : zXa d u = d.rh ++ (zXa d u).drop d.rh.length := by simp [zXa]
   rw [e] at p
   have := yQR p h.bd.nd hxn
   simpa [zKM, uH, List.append_assoc] using this) (fun b hbo => by
   by_cases e2 : b ∈ zQb r'
   ·exact hrow.lt b e2
   ·rw [if_neg e2] at hbo
    exact Nat.lt_of_lt_of_le (h.bd.lt b hbo) hf.size)
 have hC : zQZ 1 ({ (d.gen u (fun b => if b ∈ zQb r' then some (.A u) else d.o b) d.rs d.rh r' (d.ah u ++ [x]) (d.cs u) (d.ch u) (d.C u)) with at_ := fun v => if v = u then at' else d.at_ v } : zQr) = zQZ 1 (({ d with asv := fun v => if v = u then r' else d.asv v } : zQr).withAt u at') := by
  have e : ∀ {α : Type} (f : Nat -> α), (fun v => if v = u then f u else f v) = f := fun f => by funext v; by_cases e : v = u <;> simp [e]
  simp only [zQr.gen, e]
  rfl
 refine ⟨{ (d.gen u (fun b => if b ∈ zQb r' then some (.A u) else d.o b) d.rs d.rh r' (d.ah u ++ [x]) (d.cs u) (d.ch u) (d.C u)) with at_ := fun v => if v = u then at' else d.at_ v }, ⟨⟨by rw [hC]; exact hst, hbd.same d.mode (fun v => if v = u then at' else d.at_ v), h.sd⟩, hf.mono fun i hi _ => ?_, fun b hbo => ?_, rfl⟩, ?_⟩
 ·rcases hi with rfl | hi
  ·rw [h.bd.oS]; simp
  ·rw [oR i hi]; simp
 ·have hbo : (if b ∈ zQb r' then some (zX4.A u) else d.o b) ≠ none := hbo
  by_cases e2 : b ∈ zQb r'
  ·rcases hb b e2 with h1 | h1
   ·left; rw [oR b h1]; simp
   ·right; exact h1
  ·rw [if_neg e2] at hbo; exact .inl hbo
 ·simp only [zQa, Dsk.setU, Dsk.mk.injEq]
  refine ⟨rfl, rfl, rfl, ?_, rfl⟩
  funext v
  by_cases e : v = u
  ·subst e; simp [zJ2, zQr.gen]
  ·simp [zJ2, zQr.gen, e]
end Go.Proofs.YtcihcbfcgjepfaaGreatDoor
/- Desks: Append, walked. No condition but those stated. -/
namespace Go.Proofs.YtcihcbfcgjepfaaGreatDoor
open Go.Sh Go.RowKit Tryz
variable {w w' : World} {d d' : zQr} {val : Nat -> List Val} {mu : Int}
theorem bu91 : prog.underlying 91 = some (.array 4 90) := by kernel_rfl
theorem bs90 : zXr prog 90 = 4 := by kernel_rfl
theorem xZ1 {cs : Array Value} {p : Nat} (hp : p < 4) (w : World) : (Instr.index 91 (.agg cs) (.int .i64 (p : Int))).run prog w = .ok (.agg (cs.extract (p * 4) (p * 4 + 4))) w := by
 have h1 : (part 90 cs (p * 4)).run prog w = .ok (.agg (cs.extract (p * 4) (p * 4 + 4))) w := by
  unfold part
  have a : (isAgg 90).run prog w = .ok true w := Tryz.isAgg90 w
  have s : (sizeOf 90).run prog w = .ok 4 w := Tryz.sizeOf90 w
  simp only [Sem.run_bind, a, Result.andThen_ok, if_true, s, Sem.run_pure]
 have s : (sizeOf 90).run prog w = .ok 4 w := Tryz.sizeOf90 w
 unfold Instr.index
 simp only [asIntOf, Sem.run_bind, Sem.run_pure, Result.andThen_ok, zQq bu91]
 have h0 : (0 : Int) <= (p : Int) /\ (p : Int) < ((4 : Nat) : Int) := by omega
 rw [if_pos h0]
 simp only [Sem.run_bind, s, Result.andThen_ok, zQL, h1]
def usA (d : zQr) : Array Value := #[.int .i64 (d.mode 0), .int .i64 (d.at_ 0), .map (some (d.C 0)), .slice (d.asv 0).a (d.asv 0).len (d.asv 0).cap,
 .int .i64 (d.mode 1), .int .i64 (d.at_ 1), .map (some (d.C 1)), .slice (d.asv 1).a (d.asv 1).len (d.asv 1).cap,
 .int .i64 (d.mode 2), .int .i64 (d.at_ 2), .map (some (d.C 2)), .slice (d.asv 2).a (d.asv 2).len (d.asv 2).cap,
 .int .i64 (d.mode 3), .int .i64 (d.at_ 3), .map (some (d.C 3)), .slice (d.asv 3).a (d.asv 3).len (d.asv 3).cap]
theorem idxU (d : zQr) {k : Nat} (hk : k < 4) (w : World) : (Instr.index 91 (.agg (usA d)) (.int .i64 (k : Int))).run prog w = .ok (.agg #[.int .i64 (d.mode k), .int .i64 (d.at_ k), .map (some (d.C k)), .slice (d.asv k).a (d.asv k).len (d.asv k).cap]) w := by
 rw [xZ1 hk]
 rcases (by omega : k = 0 ∨ k = 1 ∨ k = 2 ∨ k = 3) with rfl | rfl | rfl | rfl <;> rfl
def zJq (d : zQr) : Nat -> Nat
 | 0 => 0
 | k + 1 => zJq d k + (d.ah k).length
theorem zYT (d : zQr) (val : Nat -> List Val) : d.rh.length + zJq d 4 = allN (zQa d val) := by
 unfold allN
 rw [zX0, zX0, zX0, zX0, show (zQa d val).recs.length = d.rh.length by simp [zQa]]
 simp only [zJq]; omega
theorem yYc (h : zQh w d 0 val) (hI : Inv (zQa d val)) (u : Int) :
  Calls prog 28 #[d.ptr, .int .i64 u] w fun e w' => e = .returned (.tuple #[.int .i64 (appN u (zQa d val)), .int .i64 (appC u (zQa d val))]) /\ ∃ d' val', zQ4 w w' d d' 0 val' /\ zQa d' val' = appS u (zQa d val) := by
 refine yKA _ u w _ ((zQM h (Pu.refl w) u).mono ?_)
 rintro e w2 ⟨rfl, h2, hf2, hs2⟩
 refine ⟨_, _, _, rfl, Br.of (fun c => ?_) (fun c => ?_)⟩
 ·have hu := zJW c
  have e1 : uC u = 1 := by rw [uC, if_neg hu]
  have e2 : appC u (zQa d val) = 1 := by rw [appC, if_pos hu]
  exact h2.left fun w' hL _ _ => ⟨by rw [e1, appN, e2, if_neg (by decide)], d, val, hL, by rw [appS, if_pos hu]⟩
 have hu := zJM c
 obtain ⟨n, rfl, hn⟩ := zQS hu
 rw [zKL hn]
 refine (yXy h2.at_ hI hn).mono ?_
 rintro e w3 ⟨rfl, d3, val3, hL3, habs3⟩
 have LL := h2.dl.trans hL3
 have eLv : zXw d3 = zXw d := by unfold zXw zQr.ptr; rw [hL3.ptr]
 have eC : appC (n : Int) (zQa d val) = if leaveC n (zQa d val) ≠ 0 then leaveC n (zQa d val) else if 300 <= allN (leaveS n (zQa d val)) then 3 else 0 := by
  rw [appC, if_neg (by simp [hu]), zQL]
 have eS : appS (n : Int) (zQa d val) = if leaveC n (zQa d val) ≠ 0 then zQa d val else if 300 <= allN (leaveS n (zQa d val)) then leaveS n (zQa d val) else appendedS n (leaveS n (zQa d val)) := by
  rw [appS, if_neg (by simp [hu]), zQL]
 refine ⟨_, rfl, Br.of (fun c1 => ?_) (fun c1 => ?_)⟩
 ·have c1 : leaveC n (zQa d val) ≠ 0 := zQC c1
  rw [if_pos c1] at eC eS
  show zQd prog [zXw d] w3 _
  rw [← eLv]
  exact zQW LL fun w' hL' _ _ => ⟨by rw [appN, eC, if_neg c1], d3, val3, hL', by rw [habs3, zJt c1, eS]⟩
 have c1 : leaveC n (zQa d val) = 0 := zQw c1
 rw [if_neg (by simp [c1])] at eC eS
 have hI3 : Inv (zQa d3 val3) := by rw [habs3]; exact hI.leave hn
 rw [← habs3] at eC eS
 clear habs3 hI
 have h3 := hL3.sys
 have hr3 := hI3.rh
 have hrl := h3.rs_len
 have ha3 : ∀ v, v < 4 -> (d3.ah v).length <= 300 := fun v hv => hI3.ah hv
 show zQi (some (⟨d.S, 0, none⟩ : Addr)) _
 rw [show (⟨d.S, 0, none⟩ : Addr) = ⟨d3.S, 0, none⟩ by rw [hL3.ptr]]
 rw [show uA d n = uA d3 n by show (⟨d.S, _, _⟩ : Addr) = ⟨d3.S, _, _⟩; rw [hL3.ptr]]
 have cx : ∀ j, w3.cell? (((⟨d3.S, 0, none⟩ : Addr).add 5).add j) = (zQZ 1 d3)[0 + 5 + j]? := fun j => by rw [zQe, zQe, h3.cell]
 refine ⟨d3.rs, h3.recs, ?_⟩
 refine ⟨d3.mode 0, cx 0, d3.at_ 0, cx 1, some (d3.C 0), cx 2, d3.asv 0, cx 3, d3.mode 1, cx 4, d3.at_ 1, cx 5, some (d3.C 1), cx 6, d3.asv 1, cx 7, d3.mode 2, cx 8, d3.at_ 2, cx 9, some (d3.C 2), cx 10, d3.asv 2, cx 11, d3.mode 3, cx 12, d3.at_ 3, cx 13, some (d3.C 3), cx 14, d3.asv 3, cx 15, ?_⟩
 refine zQz 4 (fun k t w' => t.2 = (k : Int) /\ t.1 = ((d3.rh.length + zJq d3 k : Nat) : Int) /\ Pu w3 w') ⟨rfl, by rw [hrl]; rfl, Pu.refl _⟩ ?_
 rintro k J ⟨t, m⟩ w4 hk ⟨hm, ht, hp4⟩ hJ
 obtain rfl : m = (k : Int) := hm
 obtain rfl : t = ((d3.rh.length + zJq d3 k : Nat) : Int) := ht
 refine Br.of (fun d1 => ?_) (fun d1 => ?_)
 ·have hk2 : k < 4 := by have := zQn d1; dsimp only at this; omega
  refine ⟨d3.mode k, d3.at_ k, some (d3.C k), d3.asv k, w4, idxU d3 hk2 w4, alB fun w5 hp5 hb5 => zQl hb5 bs90.symm rfl rfl fun w6 hb6 hf6 _ => ⟨d3.asv k, cl hb6 3, ?_⟩⟩
  have h1 := ha3 k hk2
  have h2 := h3.as_len hk2
  have hsum : zJq d3 k <= 300 * k := by
   clear hJ hp4 hp5 hb5 hb6 hf6
   have : ∀ j, j <= 4 -> zJq d3 j <= 300 * j := fun j => by
    induction j with
    | zero => intro _; simp [zJq]
    | succ j ih =>
     intro hj
     have := ih (by omega)
     have := ha3 j (by omega)
     simp only [zJq]; omega
   exact this k (by omega)
  rw [zQc (n := _ + ((d3.asv k).len : Int)) (by omega) (by omega), zQc (n := (k : Int) + 1) (by omega) (by omega)]
  refine hJ _ _ hk2 ⟨by simp, ?_, hp4.trans (hp5.andNew hf6 fun i hi => by rw [show i = w4.heap.size from hi]; exact Nat.le_refl _)⟩
  show _ = (((d3.rh.length + (zJq d3 k + (d3.ah k).length) : Nat)) : Int)
  rw [h2]; omega
 have hk2 : k = 4 := by have := zQg d1; dsimp only at this; omega
 subst hk2
 have h4 := h3.pu hp4
 have L4 : zQ4 w w4 d d3 1 val3 := LL.putU hp4
 rw [zYT d3 val3]
 refine Br.of (fun c2 => ?_) (fun c2 => ?_)
 ·have c2 : 300 <= allN (zQa d3 val3) := by have := zQn c2; omega
  rw [if_pos c2] at eC eS
  show zQd prog [zXw d] w4 _
  rw [← eLv]
  exact zQW L4 fun w' hL' _ _ => ⟨by rw [appN, eC, if_neg (by decide)], d3, val3, hL', by rw [eS]⟩
 have c2 : ¬ 300 <= allN (zQa d3 val3) := by have := zQg c2; omega
 rw [if_neg c2] at eC eS
 have hf16 : d3.flds.length <= 16 := hI3.f16
 have hl1 : 0 < d3.flds.length := List.length_pos_iff.2 (zQE hI3.vf).1
 refine ⟨d3.fs, h4.flds, (yKY (h4.fld hI3.vf) (yXn hI3.vf)).mono ?_⟩
 rintro e w5 ⟨q, rfl, hq, hp5⟩
 have eB : zWi d3.flds = d3.flds.map zQ3 := by unfold zWi; rw [if_pos (show zQV d3.flds = 0 from hI3.vf)]
 rw [eB] at hq
 refine ⟨_, q, _, rfl, alB fun w6 hp6 hb6 => zQl hb6 yQw.symm rfl rfl fun w7 hb7 hf7 _ => ?_⟩
 have hp57 : Pu w5 w7 := hp6.andNew hf7 fun i hi => by rw [show i = w5.heap.size from hi]; exact Nat.le_refl _
 have hp47 := hp5.trans hp57
 have h7 := h4.pu hp47
 obtain ⟨aq, haq⟩ := zXy (i := 0) hq.1 (by simpa using hl1)
 have bq : zQb q = [aq.block] := by simp [zQb, haq]
 have q1 : w4.heap.size <= aq.block := hq.2 _ (by rw [bq]; simp)
 have q2 : aq.block < w5.heap.size := hq.1.lt _ (by rw [bq]; simp)
 have oq : d3.o aq.block = none := h4.bd.out q1
 have z57 := hp57.size
 -- the state in which the new record's values are owned
 have own : ∀ w9, Pu w7 w9 -> zQh w9 (d3.ad aq.block) 1 (zX6 val3 aq.block (d3.flds.map zQ3)) := fun w9 hp => by
  have h9 := h7.pu hp
  have z := hp.size
  exact ⟨h9.st, h9.bd.ad oq (by omega) _, h9.sd⟩
 have xv : hv (zX6 val3 aq.block (d3.flds.map zQ3)) ⟨false, q⟩ = d3.flds.map zQ3 := zZj haq rfl
 have xo : ∀ b ∈ zQb (⟨false, q⟩ : zQy).s, (d3.ad aq.block).o b = some .V := fun b hb => by
  have hb : b ∈ zQb q := hb
  rw [bq] at hb; simp at hb
  show (if b = aq.block then _ else _) = _
  rw [if_pos hb]
 have xn : ∀ b ∈ zQb (⟨false, q⟩ : zQy).s, b ∉ vB (zXf (d3.ad aq.block)) := fun b hb hx => by
  have hb : b ∈ zQb q := hb
  rw [bq] at hb; simp at hb
  have := h4.bd.oV b hx
  rw [hb, oq] at this; cases this
 have ha9 : zQa (d3.ad aq.block) (zX6 val3 aq.block (d3.flds.map zQ3)) = zQa d3 val3 := zV2 h4.bd oq
 have xr : toR (zX6 val3 aq.block (d3.flds.map zQ3)) ⟨false, q⟩ = blankR (zQa d3 val3) := by rw [toR, xv]; rfl
 have L9 : ∀ w9, Pu w7 w9 -> zQ4 w w9 d (d3.ad aq.block) 1 (zX6 val3 aq.block (d3.flds.map zQ3)) := fun w9 hp => by
  refine L4.trans ⟨own w9 hp, Fr.pu (hp47.trans hp), fun b hb => ?_, rfl⟩
  have hb : (if b = aq.block then some zX4.V else d3.o b) ≠ none := hb
  by_cases e : b = aq.block
  ·right; omega
  ·rw [if_neg e] at hb; exact .inl hb
 -- the end
 have fin : ∀ {wF : World} {dF : zQr} {valF : Nat -> List Val} (at' : Int), zQ4 w wF d dF 1 valF -> zQa dF valF = appendedS n (zQa d3 val3) -> ((appendedS n (zQa d3 val3)).us n).at_ = at' -> zQd prog [zXw d] wF fun w' =>
   Ending.returned (.tuple #[.int .i64 at', .int .i64 0]) = .returned (.tuple #[.int .i64 (appN (n : Int) (zQa d val)), .int .i64 (appC (n : Int) (zQa d val))]) /\ ∃ d' val', zQ4 w w' d d' 0 val' /\ zQa d' val' = appS (n : Int) (zQa d val) := fun {wF dF valF} at' LF hab hat => by
  rw [← show zXw dF = zXw d by unfold zXw zQr.ptr; rw [LF.ptr]]
  exact zQW LF fun w' hL' _ _ => ⟨by rw [appN, eC, if_pos rfl, eS, zQL, hat], dF, valF, hL', by rw [hab, eS]⟩
 have eM : ((zQa d3 val3).us n).mode = d3.mode n := rfl
 refine ⟨_, h7.uMode hn, Br.of (fun c3 => zQf fun w8 hp8 _ => ?_) (fun c3 => zQf fun w8 hp8 _ => ?_)⟩
 ·have c3 : d3.mode n = 0 := zQ6 c3
  have h8 := h7.pu hp8
  have hb8 := hp8.blk hb7
  refine ⟨fun y => Pu w8 y, Pu.refl _, d3.rs, fun y hy => (h8.pu hy).recs, _, fun y hy => cl (hy.blk hb8) 0, q, fun y hy => cl (hy.blk hb8) 1, alB fun w9 hp9 hb9 => ⟨hp9, ?_⟩⟩
  have h9 := own w9 (hp8.trans hp9)
  have hrow9 : zQj w9 77 2 d3.rs (d3.rh.flatMap zJF) := h9.bd.rw_
  obtain ⟨r', w10, hra, hrow10, hf10, hblk10, _⟩ := zQ2 (P := prog) (ty := 23) yYn zJh rfl (by omega) hrow9 (A := some ⟨w8.heap.size, 0, none⟩) (m := 1) (c := 1) (news := [.bool false, .slice q.a q.len q.cap]) rfl (fun j y hy => ⟨_, rfl, by rw [cl hb9]; simpa using hy⟩) (fun y hy => by simp at hy; rcases hy with rfl | rfl <;> rfl) (by show (d3.rs.len + 1) * (32 + 1) <= _; omega)
  refine ⟨r', w10, hra, ?_⟩
  have hrb : ∀ b ∈ zQb r', b ∈ zQb d3.rs ∨ w9.heap.size <= b := hblk10
  have nSr : ∀ b ∈ zQb d3.rs, ¬ b = d3.S := fun b hb e => by
   have := h3.bd.oR b hb; rw [e, h3.bd.oS] at this; cases this
  have nSr' : ∀ b ∈ zQb r', ¬ b = d3.S := fun b hb e => by
   rcases hrb b hb with h1 | h1
   ·exact nSr b h1 e
   ·have := h9.bd.lt d3.S (by have := h9.bd.oS; rw [show (d3.ad aq.block).S = d3.S from rfl] at this; rw [this]; simp)
    omega
  have hst10 : w10.heap[d3.S]? = some (.cells (zQZ 1 d3) 93) := hf10.blk h9.st fun e => nSr _ e rfl
  rw [zQ9, zQe, zQe]
  refine zQv hst10 (by show 0 + 2 + 2 < 22; omega) fun w11 hw11 hb11 => ?_
  have hf11 : Fr (· = d3.S) w10 w11 := by rw [hw11]; exact Fr.cell w10 _ _ _
  have hb11 : w11.heap[d3.S]? = some (.cells (zQZ 1 { d3 with rs := r' }) 93) := hb11
  refine ⟨r', by rw [zQe, zQe, zQo hb11]; rfl, ?_⟩
  rw [zQ9, zQe]
  refine zQv hb11 (by show 5 + n * 4 + 1 < 22; omega) fun w12 hw12 hb12 => ?_
  have hf12 : Fr (· = d3.S) w11 w12 := by rw [hw12]; exact Fr.cell w11 _ _ _
  rw [zJ1 hn] at hb12
  have er : r'.len = d3.rh.length + 1 := by
   have h1 := hrow10.1
   simp only [List.length_append, zQu zQk, List.length_cons, List.length_nil] at h1
   omega
  have eat : ((r'.len : Nat) : Int) = (d3.rh.length : Int) + 1 := by rw [er]; omega
  have hrow12 : zQj w12 77 2 r' ((d3.rh ++ [(⟨false, q⟩ : zQy)]).flatMap zJF) := by
   rw [List.flatMap_append, List.flatMap_singleton]
   exact (hrow10.fr hf11 nSr').fr hf12 nSr'
  have hF : Fr (fun b => b = d3.S ∨ b ∈ zQb d3.rs) w9 w12 := ((hf10.mono (B' := fun b => b = d3.S ∨ b ∈ zQb d3.rs) fun i hi _ => .inr hi).trans hf11 fun i hi _ => .inl hi).trans hf12 fun i hi _ => .inl hi
  obtain ⟨dF, hLF, habF⟩ := yVT h9 hn ((r'.len : Nat) : Int) hb12 hrow12 hrb hF (by rw [xv]; exact (hq.1.pu hp57).pu (hp8.trans hp9)) xo xn
  rw [zQ9]
  refine ⟨((r'.len : Nat) : Int), by rw [zQe, zQo hb12]; exact (zVK (d := ({ d3 with rs := r' } : zQr).withAt n ((r'.len : Nat) : Int)) hn).trans (by simp [zQr.withAt]), ?_⟩
  rw [ha9, xr] at habF
  have eA : appendedS n (zQa d3 val3) = ({ zQa d3 val3 with recs := (zQa d3 val3).recs ++ [blankR (zQa d3 val3)] } : Dsk).setU n { (zQa d3 val3).us n with at_ := ((zQa d3 val3).recs.length : Int) + 1 } := by
   unfold appendedS; rw [eM, if_pos c3]
  have eL : (zQa d3 val3).recs.length = d3.rh.length := by simp [zQa]
  refine fin _ ((L9 w9 (hp8.trans hp9)).trans hLF) ?_ ?_
  ·rw [habF, eA, eL, eat]
  ·rw [eA, eL, eat]; simp [Dsk.setU]
 ·have c3 : d3.mode n ≠ 0 := zQm c3
  have h8 := h7.pu hp8
  have hb8 := hp8.blk hb7
  refine ⟨fun y => Pu w8 y, Pu.refl _, d3.asv n, fun y hy => (h8.pu hy).uAp hn, _, fun y hy => cl (hy.blk hb8) 0, q, fun y hy => cl (hy.blk hb8) 1, alB fun w9 hp9 hb9 => ⟨hp9, ?_⟩⟩
  have h9 := own w9 (hp8.trans hp9)
  have hrow9 : zQj w9 77 2 (d3.asv n) ((d3.ah n).flatMap zJF) := h9.bd.aw n hn
  have hal := h3.as_len hn
  have hal3 := ha3 n hn
  obtain ⟨r', w10, hra, hrow10, hf10, hblk10, _⟩ := zQ2 (P := prog) (ty := 23) yYn zJh rfl (by omega) hrow9 (A := some ⟨w8.heap.size, 0, none⟩) (m := 1) (c := 1) (news := [.bool false, .slice q.a q.len q.cap]) rfl (fun j y hy => ⟨_, rfl, by rw [cl hb9]; simpa using hy⟩) (fun y hy => by simp at hy; rcases hy with rfl | rfl <;> rfl) (by show ((d3.asv n).len + 1) * (32 + 1) <= _; omega)
  refine ⟨r', w10, hra, ?_⟩
  have hrb : ∀ b ∈ zQb r', b ∈ zQb (d3.asv n) ∨ w9.heap.size <= b := hblk10
  have nSr : ∀ b ∈ zQb (d3.asv n), ¬ b = d3.S := fun b hb e => by
   have := h3.bd.oA n hn b hb; rw [e, h3.bd.oS] at this; cases this
  have nSr' : ∀ b ∈ zQb r', ¬ b = d3.S := fun b hb e => by
   rcases hrb b hb with h1 | h1
   ·exact nSr b h1 e
   ·have := h9.bd.lt d3.S (by have := h9.bd.oS; rw [show (d3.ad aq.block).S = d3.S from rfl] at this; rw [this]; simp)
    omega
  have hst10 : w10.heap[d3.S]? = some (.cells (zQZ 1 d3) 93) := hf10.blk h9.st fun e => nSr _ e rfl
  rw [zQ9, zQe]
  refine zQv hst10 (by show 5 + n * 4 + 3 < 22; omega) fun w11 hw11 hb11 => ?_
  have hf11 : Fr (· = d3.S) w10 w11 := by rw [hw11]; exact Fr.cell w10 _ _ _
  rw [yX1 hn] at hb11
  refine ⟨r', by rw [zQe, zQo hb11]; exact (yQ9 (d := { d3 with asv := fun v => if v = n then r' else d3.asv v }) hn).trans (by simp), ?_⟩
  have er : r'.len = (d3.ah n).length + 1 := by
   have h1 := hrow10.1
   simp only [List.length_append, zQu zQk, List.length_cons, List.length_nil] at h1
   omega
  rw [zQc (n := 0 - ((r'.len : Nat) : Int)) (by omega) (by omega)]
  rw [zQ9, zQe]
  refine zQv hb11 (by show 5 + n * 4 + 1 < 22; omega) fun w12 hw12 hb12 => ?_
  have hf12 : Fr (· = d3.S) w11 w12 := by rw [hw12]; exact Fr.cell w11 _ _ _
  rw [zJ1 hn] at hb12
  have eat : 0 - ((r'.len : Nat) : Int) = -((d3.ah n).length : Int) - 1 := by rw [er]; omega
  have hrow12 : zQj w12 77 2 r' ((d3.ah n ++ [(⟨false, q⟩ : zQy)]).flatMap zJF) := by
   rw [List.flatMap_append, List.flatMap_singleton]
   exact (hrow10.fr hf11 nSr').fr hf12 nSr'
  have hF : Fr (fun b => b = d3.S ∨ b ∈ zQb (d3.asv n)) w9 w12 := ((hf10.mono (B' := fun b => b = d3.S ∨ b ∈ zQb (d3.asv n)) fun i hi _ => .inr hi).trans hf11 fun i hi _ => .inl hi).trans hf12 fun i hi _ => .inl hi
  obtain ⟨dF, hLF, habF⟩ := ap_fin h9 hn (0 - ((r'.len : Nat) : Int)) hb12 hrow12 hrb hF (by rw [xv]; exact (hq.1.pu hp57).pu (hp8.trans hp9)) xo xn
  rw [zQ9]
  refine ⟨0 - ((r'.len : Nat) : Int), by rw [zQe, zQo hb12]; exact (zVK (d := ({ d3 with asv := fun v => if v = n then r' else d3.asv v } : zQr).withAt n (0 - ((r'.len : Nat) : Int))) hn).trans (by simp [zQr.withAt]), ?_⟩
  rw [ha9, xr] at habF
  have eA : appendedS n (zQa d3 val3) = (zQa d3 val3).setU n { (zQa d3 val3).us n with ap := ((zQa d3 val3).us n).ap ++ [blankR (zQa d3 val3)], at_ := -((d3.ah n).length : Int) - 1 } := by
   unfold appendedS; rw [eM, if_neg c3, zX0]
  refine fin _ ((L9 w9 (hp8.trans hp9)).trans hLF) ?_ ?_
  ·rw [habF, eA, eat]
  ·rw [eA, eat]; simp [Dsk.setU]
end Go.Proofs.YtcihcbfcgjepfaaGreatDoor
/- Desks: a new desk. No condition but those stated. -/
namespace Go.Proofs.YtcihcbfcgjepfaaGreatDoor
open Go.Sh Go.RowKit Tryz
variable {w w' : World} {d d' : zQr} {val : Nat -> List Val} {mu : Int}
theorem zK8 {l : List Fld} {p : Int} : ∀ {rs : List Rec}, zXS l p rs = 0 -> ∀ r ∈ rs, zQB l p r = 0
 | [], _, r, h => by cases h
 | x :: rs, h, r, hr => by
  unfold zXS at h
  split at h
  ·next hx => exact absurd h hx
  ·next hx =>
   rcases List.mem_cons.1 hr with rfl | hr
   ·simpa using hx
   ·exact zK8 h r hr
theorem zWs {t : Tbl} (h : zXt t = 0) : Inv (Dsk.new t) := by
 unfold zXt at h
 split at h
 ·next hp =>
  split at h
  ·next hf => exact absurd h hf
  ·next hf =>
   split at h
   ·cases h
   ·next hl =>
    refine ⟨hp, (by simpa using hf : zQV t.fields = 0), zK8 h, ?_, ?_, ?_, ?_, ?_, ?_, ?_⟩
    ·intro u hu r hr; simp [Dsk.new, Usr.new] at hr
    ·intro u hu c hc; simp [Dsk.new, Usr.new] at hc
    ·intro u hu; simp [Dsk.new, Usr.new]
    ·intro u hu; simp [Dsk.new, Usr.new]
    ·intro u hu _ h2; simp [Dsk.new, Usr.new] at h2
    ·simp [allN, Dsk.new, Usr.new]; omega
    ·intro k v hk; simp [Dsk.new] at hk
 ·cases h
def zWK : List zQy -> List Rec -> Nat -> List Val
 | h :: hs, r :: rs => fun b => if b ∈ zQb h.s then r.v else zWK hs rs b
 | _, _ => fun _ => []
theorem yVY {s : SV} {l : List Val} (h : zQj w 28 3 s (l.flatMap zXH)) (hn : s.a = none) : l = [] := by
 cases l with
 | nil => rfl
 | cons v l =>
  obtain ⟨a, ha⟩ := zXy (i := 0) h (by simp)
  rw [hn] at ha; cases ha
theorem zKY : ∀ {hs : List zQy} {rs : List Rec}, zXp w hs rs -> (vB hs).Nodup -> hs.map (toR (zWK hs rs)) = rs
 | [], [], _, _ => rfl
 | h :: hs, r :: rs, ⟨⟨h1, h2⟩, h3⟩, hn => by
  rw [zXd] at hn
  obtain ⟨_, n2, n3⟩ := List.nodup_append.1 hn
  have ih := zKY h3 n2
  simp only [List.map_cons]
  congr 1
  ·rw [toR, h1]
   unfold hv
   cases ha : h.s.a with
   | none =>
    have := yVY h2 ha
    cases r; simp only at this ⊢; rw [this]
   | some a =>
    simp only [zWK]
    rw [if_pos (by simp [zQb, ha])]
  ·refine Eq.trans (List.map_congr_left fun x hx => ?_) ih
   have : hv (zWK (h :: hs) (r :: rs)) x = hv (zWK hs rs) x := by
    unfold hv
    cases ha : x.s.a with
    | none => rfl
    | some a =>
     simp only [zWK]
     rw [if_neg fun e => n3 _ e _ (zXk hx (show a.block ∈ zQb x.s by simp [zQb, ha])) rfl]
   rw [toR, this]; rfl
theorem valOf_row : ∀ {hs : List zQy} {rs : List Rec}, zXp w hs rs -> (vB hs).Nodup -> ∀ x ∈ hs, zQj w 28 3 x.s ((hv (zWK hs rs) x).flatMap zXH)
 | hs, rs, h, hn, x, hx => by
  obtain ⟨i, hi⟩ := List.getElem?_of_mem hx
  have e := zKY h hn
  have h1 : rs[i]? = some (toR (zWK hs rs) x) := by rw [← e, List.getElem?_map, hi, e]; rfl
  obtain ⟨y, hy, _, hr⟩ := h.at_ h1
  rw [hi] at hy; cases hy
  exact hr
def xXW (page : Int) (fs rs : SV) (L c0 k : Nat) : Array Value := #[.int .i32 0, .int .u32 0, .int .i64 page, .slice fs.a fs.len fs.cap, .slice rs.a rs.len rs.cap,
 .int .i64 0, .int .i64 0, .map (if 0 < k then some (c0 + 0) else none), .slice none 0 0, .int .i64 0, .int .i64 0, .map (if 1 < k then some (c0 + 1) else none), .slice none 0 0,
 .int .i64 0, .int .i64 0, .map (if 2 < k then some (c0 + 2) else none), .slice none 0 0, .int .i64 0, .int .i64 0, .map (if 3 < k then some (c0 + 3) else none), .slice none 0 0, .map (some L)]
theorem yWB {page : Int} {fs rs : SV} {L c0 k : Nat} (hk : k < 4) : (xXW page fs rs L c0 k).setIfInBounds (5 + k * 4 + 2) (.map (some (c0 + k))) = xXW page fs rs L c0 (k + 1) := by
 rcases (by omega : k = 0 ∨ k = 1 ∨ k = 2 ∨ k = 3) with rfl | rfl | rfl | rfl <;> rfl
def zVn (S L c0 : Nat) (t : Tbl) (fs rs : SV) (hs : List zQy) : zQr where
 sd := false
 o b := if b = S then some .S else if b = L then some .L else if c0 <= b /\ b < c0 + 4 then some (.C (b - c0)) else if b ∈ zQb fs then some .F else if b ∈ zQb rs then some .R else if b ∈ vB hs then some .V else none
 S := S
 L := L
 C u := c0 + u
 page := t.page
 flds := t.fields
 fs := fs
 rs := rs
 rh := hs
 mode _ := 0
 at_ _ := 0
 asv _ := ⟨none, 0, 0⟩
 ah _ := []
 cs _ := ⟨none, 0, 0⟩
 ch _ := []
 lk _ := none
theorem new_c {t : Tbl} {f r : SV} (h : zK1 w t f r) (hl : Lim.ok t.fields) : Calls prog 11 #[zYv t f r] w fun e w' => Pu w w' /\ (zXt t ≠ 0 -> e = .returned (.tuple #[.pointer none, .int .i64 (zXt t)])) /\
  (zXt t = 0 -> ∃ d val, e = .returned (.tuple #[d.ptr, .int .i64 0]) /\ zQh w' d 0 val /\ zQa d val = Dsk.new t /\ ∀ b, d.o b ≠ none -> w.heap.size <= b) := by
 refine yWU _ _ _ w _ (alB fun w1 hp1 hb1 => ?_)
 refine ⟨_, cl hb1 0, f, cl hb1 1, r, cl hb1 2, (yZ9 (h.pu hp1) hl).mono ?_⟩
 rintro e w2 ⟨rfl, hp2⟩
 have hp02 := hp1.trans hp2
 refine ⟨_, rfl, Br.of (fun c => ?_) (fun c => zQf fun w8 hp8 _ => ?_)⟩
 ·have c := zQC c
  exact ⟨hp02, fun _ => rfl, fun e => absurd e c⟩
 have c := zQw c
 have hI := zWs c
 have hb8 := hp8.blk (hp2.blk hb1)
 have hp08 := hp02.trans hp8
 have z1 : w.heap.size < w1.heap.size := zQA hb1
 have zz : w1.heap.size <= w8.heap.size := (hp2.trans hp8).size
 have f16 : t.fields.length <= 16 := hI.f16
 have r300 : t.recs.length <= 300 := hI.r300
 refine ⟨fun y => Pu w8 y, Pu.refl _, f, fun y hy => cl (hy.blk hb8) 1, r, fun y hy => cl (hy.blk hb8) 2, (yXz (h.fields.pu hp08) (by omega)).mono ?_⟩
 rintro e w9 ⟨qf, rfl, hqf, hqn, hp9⟩
 refine ⟨qf, rfl, hp9, (zWw (zZs.of (h.recs.pu (hp08.trans hp9))) (by omega) fun x hx => by have h1 := zQ7 (hI.gr x hx); have e : (Dsk.new t).flds.length = t.fields.length := rfl; omega).mono ?_⟩
 rintro e w10 ⟨qr, hs, rfl, hN, hp10⟩
 have hb10 := hp10.blk (hp9.blk hb8)
 have z9 := hp9.size
 have z10 := hp10.size
 refine ⟨qr, rfl, ?_⟩
 rw [zQe]
 refine zQv hb10 (by show 0 + 1 < 3; omega) fun w11 hw11 hb11 => ?_
 rw [zQe]
 refine zQv hb11 (by show 0 + 2 < 3; omega) fun w12 hw12 hb12 => ?_
 have hf12 : Fr (· = w.heap.size) w10 w12 := by
  refine (show Fr (· = w.heap.size) w10 w11 by rw [hw11]; exact Fr.cell w10 _ _ _).trans (show Fr (· = w.heap.size) w11 w12 by rw [hw12]; exact Fr.cell w11 _ _ _) fun i hi _ => hi
 have s12 : w12.heap.size = w10.heap.size := by rw [hw12, hw11]; simp
 have n1 : ∀ {b : Nat}, w8.heap.size <= b -> ¬ b = w.heap.size := fun {b} hb e => by omega
 have hqf12 := (hqf.pu hp10).fr hf12 fun b hb => n1 (hqn b hb)
 have hrow12 := hN.row.fr hf12 fun b hb => n1 (by have := hN.new b hb; omega)
 have hrec12 := hN.recs.fr hf12 fun b hb => n1 (by have := (hN.vnew b hb).1; omega)
 have hp012 : Pu w w12 := ((hp08.trans hp9).trans hp10).andNew hf12 fun i hi => by rw [show i = w.heap.size from hi]; exact Nat.le_refl _
 refine ⟨_, cl hb12 0, qf, cl hb12 1, qr, cl hb12 2, zX7 fun w13 hw13 => ?_⟩
 have hp13 : Pu w12 w13 := by rw [hw13]; exact Pu.alloc w12 _
 have s13 : w13.heap.size = w12.heap.size + 1 := by rw [hw13]; simp
 have hm13 : zQ8 w13 zXu zXu w12.heap.size ([] : List (Int × Int)) := by rw [hw13]; exact zQ8.new w12 _ _
 refine alB fun w14 hp14 hb14 => ?_
 have z14 := hp14.size
 have l14 : w13.heap.size < w14.heap.size := zQA hb14
 have zf : ∀ b ∈ zQb qf, w8.heap.size <= b /\ b < w12.heap.size := fun b hb => ⟨hqn b hb, by rw [s12]; have := hqf.lt b hb; omega⟩
 have zr : ∀ b ∈ zQb qr, w9.heap.size <= b /\ b < w12.heap.size := fun b hb => ⟨hN.new b hb, by rw [s12]; exact hN.row.lt b hb⟩
 have zv : ∀ b ∈ vB hs, w9.heap.size <= b /\ b < w12.heap.size := fun b hb => ⟨(hN.vnew b hb).1, by
  obtain ⟨x, hx, hxb⟩ := List.mem_flatMap.1 hb
  exact (valOf_row hrec12 hN.nd x hx).lt b hxb⟩
 have zfr : ∀ b ∈ zQb qf, b < w9.heap.size := hqf.lt
 refine zQz 4 (fun k t' w' => t' = (k : Int) /\ w'.heap.size = w14.heap.size + k /\ w'.heap[w13.heap.size]? = some (.cells (xXW t.page qf qr w12.heap.size w14.heap.size k) 93) /\ (∀ v, v < k -> zQ8 w' zXu chV (w14.heap.size + v) []) /\ Fr (· = w13.heap.size) w14 w') ⟨rfl, rfl, hb14, fun v hv => absurd hv (by omega), Fr.refl _ _⟩ ?_
 rintro k J t' w15 hk ⟨ht, hsz, hbk, hms, hf⟩ hJ
 obtain rfl : t' = (k : Int) := ht
 refine Br.of (fun d1 => ?_) (fun d1 => ?_)
 ·have hk2 : k < 4 := by have := zQn d1; omega
  refine zX7 fun w16 hw16 => ?_
  have hp16 : Pu w15 w16 := by rw [hw16]; exact Pu.alloc w15 _
  have s16 : w16.heap.size = w15.heap.size + 1 := by rw [hw16]; simp
  have hm16 : zQ8 w16 zXu chV w15.heap.size [] := by rw [hw16]; exact zQ8.new w15 _ _
  refine ⟨by omega, by omega, ?_⟩
  rw [zQL, zQe, zQe, zQe]
  have hb16 := hp16.blk hbk
  rw [show 0 + 5 + k * 4 + 2 = 5 + k * 4 + 2 by omega]
  refine zQv hb16 (by show 5 + k * 4 + 2 < 22; omega) fun w17 hw17 hb17 => ?_
  have hf17 : Fr (· = w13.heap.size) w16 w17 := by rw [hw17]; exact Fr.cell w16 _ _ _
  have s17 : w17.heap.size = w16.heap.size := by rw [hw17]; simp
  rw [zQc (by omega) (by omega)]
  refine hJ _ _ hk2 ⟨by omega, by omega, ?_, fun v hv => ?_, (hf.trans (Fr.pu hp16 : Fr (· = w13.heap.size) w15 w16) fun i hi _ => hi).trans hf17 fun i hi _ => hi⟩
  ·rw [hb17, hsz, yWB hk2]
  ·by_cases e : v = k
   ·subst e
    rw [← hsz]
    exact hm16.fr hf17 (by omega)
   ·exact ((hms v (by omega)).pu hp16).fr hf17 (by omega)
 ·have hk2 : k = 4 := by have := zQg d1; omega
  subst hk2
  have hpF : Pu w w15 := ((hp012.trans hp13).trans hp14).andNew hf fun i hi => by rw [show i = w13.heap.size from hi]; have := hp012.size; omega
  have hp1214 : Pu w12 w14 := hp13.trans hp14
  have nS : ∀ {b : Nat}, b < w12.heap.size + 1 -> ¬ b = w13.heap.size := fun {b} hb e => by omega
  have o0 : ∀ {b : Nat}, b < w12.heap.size -> (zVn w13.heap.size w12.heap.size w14.heap.size t qf qr hs).o b = if b ∈ zQb qf then some .F else if b ∈ zQb qr then some .R else if b ∈ vB hs then some .V else none := fun {b} hb => by
   show (if b = w13.heap.size then _ else if b = w12.heap.size then _ else if w14.heap.size <= b /\ b < w14.heap.size + 4 then _ else _) = _
   rw [if_neg (by omega), if_neg (by omega), if_neg (by omega)]
  refine ⟨hpF, fun e => absurd c e, fun _ => ⟨zVn w13.heap.size w12.heap.size w14.heap.size t qf qr hs, zWK hs t.recs, rfl, ⟨hbk, ?_, rfl⟩, ?_, fun b hb => ?_⟩⟩
  ·have eAll : zXf (zVn w13.heap.size w12.heap.size w14.heap.size t qf qr hs) = hs := by simp [zXf, uH, chH, zVn]
   have hrecF : zXp w15 hs t.recs := (hrec12.fr (Fr.pu hp1214 : Fr (fun _ => False) w12 w14) fun _ _ h => h).fr hf fun b hb => nS (by have := zv b hb; omega)
   refine ⟨(hqf12.pu hp1214).fr hf fun b hb => nS (by have := zf b hb; omega), (hrow12.pu hp1214).fr hf fun b hb => nS (by have := zr b hb; omega), fun u hu => zQj.nil _ _ _, fun _ u hu => hms u hu, fun e => (by cases e), ⟨[], (hm13.pu hp14).fr hf (nS (by omega)), fun k => rfl⟩, fun x hx => ?_, fun v hv => ⟨rfl, rfl⟩, by rw [eAll]; exact hN.nd, ?_, ?_, fun _ u hu => ?_, fun e => (by cases e), fun b hb => ?_, fun b hb => ?_, fun u hu b hb => by simp [zVn, zQb] at hb, fun b hb => ?_, fun b hb => ?_⟩
   ·rw [eAll] at hx; exact valOf_row hrecF hN.nd x hx
   ·show (if w13.heap.size = w13.heap.size then _ else _) = _; rw [if_pos rfl]
   ·show (if w12.heap.size = w13.heap.size then _ else if w12.heap.size = w12.heap.size then _ else _) = _; rw [if_neg (by omega), if_pos rfl]
   ·show (if w14.heap.size + u = w13.heap.size then _ else if w14.heap.size + u = w12.heap.size then _ else if w14.heap.size <= w14.heap.size + u /\ w14.heap.size + u < w14.heap.size + 4 then some (zX4.C (w14.heap.size + u - w14.heap.size)) else _) = _
    rw [if_neg (by omega), if_neg (by omega), if_pos (by omega), Nat.add_sub_cancel_left]
   ·replace hb : b ∈ zQb qf := hb
    rw [o0 (zf b hb).2, if_pos hb]
   ·replace hb : b ∈ zQb qr := hb
    rw [o0 (zr b hb).2, if_neg (fun e => by have := zfr b e; have := zr b hb; omega), if_pos hb]
   ·rw [eAll] at hb
    rw [o0 (zv b hb).2, if_neg (fun e => by have := zfr b e; have := zv b hb; omega), if_neg (hN.vnew b hb).2, if_pos hb]
   ·have hb : (if b = w13.heap.size then some zX4.S else if b = w12.heap.size then some .L else if w14.heap.size <= b /\ b < w14.heap.size + 4 then some (.C (b - w14.heap.size)) else if b ∈ zQb qf then some .F else if b ∈ zQb qr then some .R else if b ∈ vB hs then some .V else none) ≠ none := hb
    by_cases e1 : b = w13.heap.size
    ·omega
    rw [if_neg e1] at hb
    by_cases e2 : b = w12.heap.size
    ·omega
    rw [if_neg e2] at hb
    by_cases e3 : w14.heap.size <= b /\ b < w14.heap.size + 4
    ·omega
    rw [if_neg e3] at hb
    by_cases e4 : b ∈ zQb qf
    ·have := zf b e4; omega
    rw [if_neg e4] at hb
    by_cases e5 : b ∈ zQb qr
    ·have := zr b e5; omega
    rw [if_neg e5] at hb
    by_cases e6 : b ∈ vB hs
    ·have := zv b e6; omega
    rw [if_neg e6] at hb; exact absurd rfl hb
  ·have e := zKY hrec12 hN.nd
   simp only [zQa, zVn, Dsk.new, e]
   rfl
  ·have hb : (if b = w13.heap.size then some zX4.S else if b = w12.heap.size then some .L else if w14.heap.size <= b /\ b < w14.heap.size + 4 then some (.C (b - w14.heap.size)) else if b ∈ zQb qf then some .F else if b ∈ zQb qr then some .R else if b ∈ vB hs then some .V else none) ≠ none := hb
   have := hp012.size
   by_cases e1 : b = w13.heap.size
   ·omega
   rw [if_neg e1] at hb
   by_cases e2 : b = w12.heap.size
   ·omega
   rw [if_neg e2] at hb
   by_cases e3 : w14.heap.size <= b /\ b < w14.heap.size + 4
   ·omega
   rw [if_neg e3] at hb
   by_cases e4 : b ∈ zQb qf
   ·have := zf b e4; omega
   rw [if_neg e4] at hb
   by_cases e5 : b ∈ zQb qr
   ·have := zr b e5; omega
   rw [if_neg e5] at hb
   by_cases e6 : b ∈ vB hs
   ·have := zv b e6; omega
   rw [if_neg e6] at hb; exact absurd rfl hb
end Go.Proofs.YtcihcbfcgjepfaaGreatDoor
/- Desks: how the reference's desk lies in memory; its small questions; modes. No condition but those stated. -/
namespace Go.Proofs.YtcihcbfcgjepfaaGreatDoor
open Go.Sh Go.RowKit Tryz
variable {w w' : World} {d d' : zQr} {val : Nat -> List Val}
def zZz (d : zQr) : Array Value := #[.int .i64 d.page, .slice d.fs.a d.fs.len d.fs.cap, .slice d.rs.a d.rs.len d.rs.cap,
 .int .i64 (d.mode 0), .int .i64 (d.at_ 0), .slice (d.cs 0).a (d.cs 0).len (d.cs 0).cap, .slice (d.asv 0).a (d.asv 0).len (d.asv 0).cap,
 .int .i64 (d.mode 1), .int .i64 (d.at_ 1), .slice (d.cs 1).a (d.cs 1).len (d.cs 1).cap, .slice (d.asv 1).a (d.asv 1).len (d.asv 1).cap,
 .int .i64 (d.mode 2), .int .i64 (d.at_ 2), .slice (d.cs 2).a (d.cs 2).len (d.cs 2).cap, .slice (d.asv 2).a (d.asv 2).len (d.asv 2).cap,
 .int .i64 (d.mode 3), .int .i64 (d.at_ 3), .slice (d.cs 3).a (d.cs 3).len (d.cs 3).cap, .slice (d.asv 3).a (d.asv 3).len (d.asv 3).cap, .map (some d.L)]
structure zQs (w : World) (d : zQr) (val : Nat -> List Val) : Prop where
 st : w.heap[d.S]? = some (.cells (zZz d) 125)
 bd : zQG w d val
 sd : d.sd = true
theorem zQs.fr {B : Nat -> Prop} (h : zQs w d val) (hf : Fr B w w') (hn : ∀ b, d.o b ≠ none -> ¬ B b) : zQs w' d val :=
 ⟨hf.blk h.st (hn _ (by rw [h.bd.oS]; simp)), h.bd.fr hf fun b κ hb _ => hn b (by rw [hb]; simp), h.sd⟩
theorem zQs.pu (h : zQs w d val) (hp : Pu w w') : zQs w' d val := h.fr (Fr.pu hp : Fr (fun _ => False) w w') fun _ _ h => h
theorem zQs.cs_row (h : zQs w d val) {u : Nat} (hu : u < 4) : zQj w 136 5 (d.cs u) ((d.ch u).flatMap chC) := h.bd.ml h.sd u hu
theorem zQs.lm (h : zQs w d val) : ∃ l, zQ8 w zXu zXu d.L l /\ ∀ k, AL.get l k = (d.lk k).map (· + 1) := by
 obtain ⟨l, h1, h2⟩ := h.bd.lm
 exact ⟨l, h1, fun k => by rw [h2, h.sd]; rfl⟩
abbrev uR (d : zQr) (u : Nat) : Addr := ⟨d.S, 3 + u * 4, none⟩
theorem zJp (d : zQr) (u : Nat) : ((⟨d.S, 0, none⟩ : Addr).add 3).add ((u : Int).toNat * 4) = uR d u := by rw [zQe, zQe, zQL, Nat.zero_add]
theorem yV8 {u : Nat} (hu : u < 4) : (zZz d)[3 + u * 4]? = some (.int .i64 (d.mode u)) := by
 rcases (by omega : u = 0 ∨ u = 1 ∨ u = 2 ∨ u = 3) with rfl | rfl | rfl | rfl <;> rfl
theorem yQP {u : Nat} (hu : u < 4) : (zZz d)[3 + u * 4 + 1]? = some (.int .i64 (d.at_ u)) := by
 rcases (by omega : u = 0 ∨ u = 1 ∨ u = 2 ∨ u = 3) with rfl | rfl | rfl | rfl <;> rfl
theorem yYs {u : Nat} (hu : u < 4) : (zZz d)[3 + u * 4 + 2]? = some (.slice (d.cs u).a (d.cs u).len (d.cs u).cap) := by
 rcases (by omega : u = 0 ∨ u = 1 ∨ u = 2 ∨ u = 3) with rfl | rfl | rfl | rfl <;> rfl
theorem yW3 {u : Nat} (hu : u < 4) : (zZz d)[3 + u * 4 + 3]? = some (.slice (d.asv u).a (d.asv u).len (d.asv u).cap) := by
 rcases (by omega : u = 0 ∨ u = 1 ∨ u = 2 ∨ u = 3) with rfl | rfl | rfl | rfl <;> rfl
theorem zYo {u : Nat} (hu : u < 4) (m : Int) : (zZz d).setIfInBounds (3 + u * 4) (.int .i64 m) = zZz (d.withMode u m) := by
 rcases (by omega : u = 0 ∨ u = 1 ∨ u = 2 ∨ u = 3) with rfl | rfl | rfl | rfl <;> rfl
theorem zKz {u : Nat} (hu : u < 4) (m : Int) : (zZz d).setIfInBounds (3 + u * 4 + 1) (.int .i64 m) = zZz (d.withAt u m) := by
 rcases (by omega : u = 0 ∨ u = 1 ∨ u = 2 ∨ u = 3) with rfl | rfl | rfl | rfl <;> rfl
theorem yQt {u : Nat} (hu : u < 4) (s : SV) : (zZz d).setIfInBounds (3 + u * 4 + 2) (.slice s.a s.len s.cap) = zZz { d with cs := fun v => if v = u then s else d.cs v } := by
 rcases (by omega : u = 0 ∨ u = 1 ∨ u = 2 ∨ u = 3) with rfl | rfl | rfl | rfl <;> rfl
theorem yQ8 {u : Nat} (hu : u < 4) (s : SV) : (zZz d).setIfInBounds (3 + u * 4 + 3) (.slice s.a s.len s.cap) = zZz { d with asv := fun v => if v = u then s else d.asv v } := by
 rcases (by omega : u = 0 ∨ u = 1 ∨ u = 2 ∨ u = 3) with rfl | rfl | rfl | rfl <;> rfl
theorem zQs.cell (h : zQs w d val) (o : Nat) : w.cell? ((⟨d.S, 0, none⟩ : Addr).add o) = (zZz d)[o]? := by rw [zQe, zQo h.st, Nat.zero_add]
theorem zQs.page (h : zQs w d val) : w.cell? (⟨d.S, 0, none⟩ : Addr) = some (.int .i64 d.page) := by rw [zQo h.st]; rfl
theorem zQs.flds (h : zQs w d val) : w.cell? ((⟨d.S, 0, none⟩ : Addr).add 1) = some (.slice d.fs.a d.fs.len d.fs.cap) := by rw [h.cell]; rfl
theorem zQs.recs (h : zQs w d val) : w.cell? ((⟨d.S, 0, none⟩ : Addr).add 2) = some (.slice d.rs.a d.rs.len d.rs.cap) := by rw [h.cell]; rfl
theorem zQs.locks (h : zQs w d val) : w.cell? ((⟨d.S, 0, none⟩ : Addr).add 19) = some (.map (some d.L)) := by rw [h.cell]; rfl
theorem zQs.uMode (h : zQs w d val) {u : Nat} (hu : u < 4) : w.cell? (((⟨d.S, 0, none⟩ : Addr).add 3).add ((u : Int).toNat * 4)) = some (.int .i64 (d.mode u)) := by rw [zJp, zQo h.st]; exact yV8 hu
theorem zQs.uAt (h : zQs w d val) {u : Nat} (hu : u < 4) : w.cell? ((((⟨d.S, 0, none⟩ : Addr).add 3).add ((u : Int).toNat * 4)).add 1) = some (.int .i64 (d.at_ u)) := by rw [zJp, zQe, zQo h.st]; exact yQP hu
theorem zQs.uCs (h : zQs w d val) {u : Nat} (hu : u < 4) : w.cell? ((((⟨d.S, 0, none⟩ : Addr).add 3).add ((u : Int).toNat * 4)).add 2) = some (.slice (d.cs u).a (d.cs u).len (d.cs u).cap) := by rw [zJp, zQe, zQo h.st]; exact yYs hu
theorem zQs.uAp (h : zQs w d val) {u : Nat} (hu : u < 4) : w.cell? ((((⟨d.S, 0, none⟩ : Addr).add 3).add ((u : Int).toNat * 4)).add 3) = some (.slice (d.asv u).a (d.asv u).len (d.asv u).cap) := by rw [zJp, zQe, zQo h.st]; exact yW3 hu
theorem zQs.as_len (h : zQs w d val) {u : Nat} (hu : u < 4) : (d.asv u).len = (d.ah u).length := (h.bd.aw u hu).len zQk (by decide)
theorem zQs.rs_len (h : zQs w d val) : d.rs.len = d.rh.length := h.bd.rw_.len zQk (by decide)
theorem zQs.cs_len (h : zQs w d val) {u : Nat} (hu : u < 4) : (d.cs u).len = (d.ch u).length := (h.cs_row hu).len zZu (by decide)
theorem zQs.own (h : zQs w d val) {o : Nat} {v : Value} (ho : o < 20) {K : World -> Prop} (hc : (zZz d).setIfInBounds o v = zZz d') (hS : d'.S = d.S) (hsd : d'.sd = d.sd) (hb : ∀ x, zQG x d val -> zQG x d' val)
  (hK : ∀ x, zQs x d' val -> Fr (· = d.S) w x -> x.heap.size = w.heap.size -> K x) : st1 ⟨d.S, o, none⟩ v w K := by
 refine zQv h.st ho fun x hx hbx => ?_
 have hf : Fr (· = d.S) w x := by rw [hx]; exact Fr.cell w _ _ _
 refine hK x ⟨by rw [hS, hbx, hc], hb x (h.bd.fr hf fun b κ hb hne e => ?_), by rw [hsd, h.sd]⟩ hf (by rw [hx]; simp)
 rw [show b = d.S from e, h.bd.oS] at hb
 exact hne (Option.some.inj hb).symm
structure zQ1 (w w' : World) (d d' : zQr) (val' : Nat -> List Val) : Prop where
 sys : zQs w' d' val'
 fr : Fr (fun b => d.o b ≠ none) w w'
 own : ∀ b, d'.o b ≠ none -> d.o b ≠ none ∨ w.heap.size <= b
 ptr : d'.S = d.S
theorem zQ1.refl (h : zQs w d val) : zQ1 w w d d val := ⟨h, Fr.refl _ _, fun _ h => .inl h, rfl⟩
theorem zQ1.pu (h : zQs w d val) (hp : Pu w w') : zQ1 w w' d d val := ⟨h.pu hp, Fr.pu hp, fun _ h => .inl h, rfl⟩
theorem zQ1.trans {w'' : World} {d'' : zQr} {val' val'' : Nat -> List Val} (h : zQ1 w w' d d' val') (k : zQ1 w' w'' d' d'' val'') : zQ1 w w'' d d'' val'' := by
 refine ⟨k.sys, h.fr.trans k.fr fun b hb hlt => (h.own b hb).resolve_right (by omega), fun b hb => ?_, k.ptr.trans h.ptr⟩
 rcases k.own b hb with h1 | h1
 ·exact h.own b h1
 ·exact .inr (Nat.le_trans h.fr.size h1)
theorem zQ1.putU {val' : Nat -> List Val} {w'' : World} (h : zQ1 w w' d d' val') (hp : Pu w' w'') : zQ1 w w'' d d' val' := h.trans (zQ1.pu h.sys hp)
theorem zQ1.cell {val' : Nat -> List Val} (h : zQs w d val) (h' : zQs w' d' val') (hf : Fr (· = d.S) w w') (ho : d'.o = d.o) (hS : d'.S = d.S) : zQ1 w w' d d' val' :=
 ⟨h', hf.mono fun i hi _ => by rw [show i = d.S from hi, h.bd.oS]; simp, fun b hb => .inl (by rw [← ho]; exact hb), hS⟩
theorem u4 {u : Nat} (hu : u < 4) : (0 : Int) <= (u : Int) /\ (u : Int) < ((4 : Nat) : Int) := by omega
theorem zVU (u : Int) (w : World) : Calls prog 118 #[.int .i64 u] w fun e w' => e = .returned (.bool (isU u)) /\ w' = w := by
 refine yZP u w _ (Br.of (fun c => ?_) (fun c => ?_))
 ·have c := zQn c
  refine ⟨?_, rfl⟩
  rw [isU, decide_eq_true (show (0 : Int) <= u by omega), Bool.true_and]
 ·have c := zQg c
  refine ⟨?_, rfl⟩
  rw [isU, decide_eq_false (show ¬ (0 : Int) <= u by omega), Bool.false_and]
theorem yK7 (h : zQs w d val) {u : Nat} (hu : u < 4) (hc : (d.ch u).length <= 1000000) (ha : (d.ah u).length <= 1000000) : Calls prog 119 #[d.ptr, .int .i64 (u : Int)] w fun e w' => e = .returned (.bool ((zQa d val).us u).emp) /\ Pu w w' := by
 refine yXS _ _ w _ (zQf fun w1 hp1 _ => ?_)
 have h1 := h.pu hp1
 refine ⟨(u4 hu).1, (u4 hu).2, d.cs u, h1.uCs hu, (u4 hu).1, (u4 hu).2, d.asv u, h1.uAp hu, ?_, hp1⟩
 rw [h.cs_len hu, h.as_len hu, zQc (by omega) (by omega), Usr.emp, zVc, zX0]
 congr 2
 rw [xXU, decide_eq_decide]; omega
theorem yX4 (h : zQs w d val) {u : Nat} (hu : u < 4) (k : Int) (ha : (d.ah u).length <= 1000000) : Calls prog 120 #[d.ptr, .int .i64 (u : Int), .int .i64 k] w fun e w' => e = .returned (.bool (decide (seenR (zQa d val) u k ≠ none))) /\ w' = w := by
 have hal := h.as_len hu
 have hrl := h.rs_len
 have e1 : ((zQa d val).us u).ap.length = (d.ah u).length := zX0
 have e2 : (zQa d val).recs.length = d.rh.length := by simp [zQa]
 have up : 1 <= k -> k <= d.rh.length -> seenR (zQa d val) u k ≠ none := fun a b => by
  unfold seenR
  rw [if_neg (by omega), if_neg (by omega)]
  split
  ·simp
  ·rw [List.getElem?_eq_getElem (by omega)]; simp
 have no : ¬ k < 0 -> ¬ (1 <= k /\ k <= d.rh.length) -> seenR (zQa d val) u k = none := fun a b => by
  unfold seenR
  rw [if_neg a, if_pos (by omega)]
 have ng : k < 0 -> (decide (k >= IntKind.i64.wrap (0 - (((d.asv u).len : Nat) : Int))) = decide (seenR (zQa d val) u k ≠ none)) := fun a => by
  rw [zQc (by omega) (by omega), decide_eq_decide]
  unfold seenR
  rw [if_pos a]
  by_cases c : (-k - 1).toNat < ((zQa d val).us u).ap.length
  ·rw [List.getElem?_eq_getElem c]; simp; omega
  ·rw [List.getElem?_eq_none (by omega)]; simp; omega
 have low : Br (decide (k < 0)) (∃ l30 : SV, w.cell? ((((⟨d.S, 0, none⟩ : Addr).add 3).add ((u : Int).toNat * 4)).add 3) = some (.slice l30.a l30.len l30.cap) /\ (Ending.returned (.bool (decide (k >= (IntKind.i64.wrap (0 - ((l30.len : Nat) : Int)))))) = .returned (.bool (decide (seenR (zQa d val) u k ≠ none))) /\ w = w)) (¬ (1 <= k /\ k <= d.rh.length) -> Ending.returned (.bool false) = .returned (.bool (decide (seenR (zQa d val) u k ≠ none))) /\ w = w) := by
  refine Br.of (fun c => ⟨d.asv u, h.uAp hu, by rw [ng (zQn c)], rfl⟩) (fun c b => ⟨by rw [no (zQg c) b]; rfl, rfl⟩)
 refine yZU _ _ k w _ (Br.of (fun c => ⟨d.rs, h.recs, Br.of (fun c1 => ?_) (fun c1 => ?_)⟩) (fun c => ?_))
 ·have c := zQn c; have c1 := zQn c1
  exact ⟨by rw [decide_eq_true (up (by omega) (by omega))], rfl⟩
 ·have c := zQn c; have c1 := zQg c1
  refine Br.of (fun c2 => ?_) (fun c2 => ⟨by rw [no (zQg c2) (by omega)]; rfl, rfl⟩)
  have := zQn c2; omega
 ·have c := zQg c
  refine Br.of (fun c2 => ⟨(u4 hu).1, (u4 hu).2, d.asv u, h.uAp hu, by rw [ng (zQn c2)], rfl⟩) (fun c2 => ⟨by rw [no (zQg c2) (by omega)]; rfl, rfl⟩)
theorem yK3 (h : zQs w d val) {u : Nat} (hu : u < 4) : Calls prog 121 #[d.ptr, .int .i64 (u : Int)] w fun e w' => e = .returned (.bool ((zQa d val).us u).rows) /\ w' = w := by
 have e : ((zQa d val).us u).rows = (decide (d.mode u = 1) || decide (d.mode u = 2)) := rfl
 rw [e]
 refine yXO _ _ w _ ⟨(u4 hu).1, (u4 hu).2, _, h.uMode hu, Br.of (fun c => ⟨?_, rfl⟩) (fun c => ⟨(u4 hu).1, (u4 hu).2, _, h.uMode hu, ?_, rfl⟩)⟩
 ·rw [decide_eq_true (zQ6 c)]; rfl
 ·rw [decide_eq_false (zQm c), Bool.false_or]; rfl
def zXo (l : List Chg) (k : Int) : Option Nat := l.findIdx? fun c => decide (c.1 = k)
theorem zWx : ∀ {l : List Chg} {k : Int}, AL.get l k = (zXo l k).bind fun i => l[i]?.map (·.2)
 | [], k => rfl
 | (a, b) :: l, k => by
  simp only [AL.get, zXo, List.findIdx?_cons]
  by_cases e : a = k
  ·simp [e]
  ·rw [if_neg e, zWx]
   simp only [e, decide_false, Bool.false_eq_true, if_false, zXo]
   cases l.findIdx? fun c => decide (c.1 = k) <;> rfl
theorem zWj (h : zQs w d val) {u : Nat} (hu : u < 4) (k : Int) (hc : (d.ch u).length <= 1000000) : Calls prog 130 #[d.ptr, .int .i64 (u : Int), .int .i64 k] w fun e w' => e = .returned (.int .i64 (match zXo (d.ch u) k with | some i => (i : Int) | none => -1)) /\ w' = w := by
 refine yZH _ _ k w _ ?_
 have hcl := h.cs_len hu
 refine zQz (d.ch u).length (fun i t w' => t = (i : Int) /\ w' = w /\ ∀ c ∈ (d.ch u).take i, decide (c.1 = k) = false) ⟨rfl, rfl, by simp⟩ ?_
 rintro i J t w1 hi ⟨ht, rfl, hno⟩ hJ
 obtain rfl : t = (i : Int) := ht
 refine ⟨(u4 hu).1, (u4 hu).2, d.cs u, h.uCs hu, Br.of (fun d1 => ?_) (fun d1 => ?_)⟩
 ·have hi2 : i < (d.ch u).length := by have := zQn d1; omega
  obtain ⟨c, hcx⟩ := zXg hi2
  obtain ⟨a, ea, _, c0⟩ := (h.cs_row hu).elem zZu hcx (o := 0) (v := .int .i64 c.1) rfl
  rw [yQM] at c0
  refine ⟨(u4 hu).1, (u4 hu).2, d.cs u, h.uCs hu, a, ea, by omega, by omega, c.1, c0, Br.of (fun d2 => ?_) (fun d2 => ?_)⟩
  ·have d2 := zQ6 d2
   have : zXo (d.ch u) k = some i := by
    unfold zXo
    rw [List.findIdx?_eq_some_iff_getElem]
    obtain ⟨hi3, e3⟩ := List.getElem?_eq_some_iff.1 hcx
    refine ⟨hi3, by rw [e3]; simp [d2], fun j hj => ?_⟩
    have := hno (d.ch u)[j] (List.mem_iff_getElem.2 ⟨j, by simp; omega, by simp⟩)
    simpa using this
   exact ⟨by rw [this], rfl⟩
  ·have d2 := zQm d2
   rw [zQc (by omega) (by omega)]
   refine hJ _ _ hi2 ⟨by omega, rfl, fun x hx => ?_⟩
   rw [zQO hcx, List.mem_append] at hx
   rcases hx with hx | hx
   ·exact hno x hx
   ·simp at hx; rw [hx]; simp [d2]
 ·have hi2 : i = (d.ch u).length := by have := zQg d1; omega
  subst hi2
  rw [List.take_length] at hno
  have : zXo (d.ch u) k = none := by unfold zXo; rw [List.findIdx?_eq_none_iff]; exact hno
  exact ⟨by rw [this], rfl⟩
theorem xXG (h : zQs w d val) (hI : Inv (zQa d val)) (u m : Int) : Calls prog 62 #[d.ptr, .int .i64 u, .int .i64 m] w fun e w' => e = .returned (.int .i64 (modeC u m (zQa d val))) /\ ∃ d', zQ1 w w' d d' val /\ zQa d' val = modeS u m (zQa d val) := by
 refine yWw _ u m w _ (Calls.mono (zVU u w) ?_)
 rintro e w1 ⟨rfl, rfl⟩
 have bad : ∀ {w2 : World} (n : Int), Pu w1 w2 -> n ≠ 0 -> modeC u m (zQa d val) = n -> Ending.returned (.int .i64 n) = .returned (.int .i64 (modeC u m (zQa d val))) /\ ∃ d', zQ1 w1 w2 d d' val /\ zQa d' val = modeS u m (zQa d val) := fun {w2} n hp hn hC => ⟨by rw [hC], d, zQ1.pu h hp, by rw [modeS, hC, if_neg hn]⟩
 refine ⟨_, rfl, Br.of (fun c => ?_) (fun c => ?_)⟩
 ·have c : isU u = false := by simpa using c
  exact bad 1 (Pu.refl _) (by decide) (by rw [modeC, if_pos (by rw [c]; simp)])
 have hu : isU u = true := by simpa using c
 refine Br.of (fun c1 => bad 1 (Pu.refl _) (by decide) (by rw [modeC, if_neg (by simp [hu]), if_pos (.inl (zQn c1))])) (fun c1 => Br.of (fun c2 => bad 1 (Pu.refl _) (by decide) (by rw [modeC, if_neg (by simp [hu]), if_pos (.inr (zQn c2))])) (fun c2 => ?_))
 have c1 := zQg c1
 have c2 := zQg c2
 obtain ⟨n, rfl, hn⟩ := zQS hu
 refine (yK7 h hn (by have := hI.chl hn; omega) (by have := hI.ah hn; omega)).mono ?_
 rintro e w2 ⟨rfl, hp2⟩
 refine ⟨_, rfl, Br.of (fun c3 => bad 9 hp2 (by decide) ?_) (fun c3 => ?_)⟩
 ·rw [modeC, if_neg (by simp [hu]), if_neg (by omega), if_pos (by simpa using c3)]
 have hC : modeC (n : Int) m (zQa d val) = 0 := by
  have c3 : ((zQa d val).us n).emp = true := by simpa using c3
  rw [modeC, if_neg (by simp [hu]), if_neg (by omega), if_neg (by rw [zQL, c3]; simp)]
 refine ⟨(u4 hn).1, (u4 hn).2, ?_⟩
 rw [zJp]
 refine (h.pu hp2).own (d' := d.withMode n m) (by omega) (zYo hn m) rfl rfl (fun x hb => hb.same _ _) fun w3 h3 hf3 hs3 => ?_
 exact ⟨by rw [hC], _, (zQ1.pu h hp2).trans (zQ1.cell (h.pu hp2) h3 hf3 rfl rfl), by rw [modeS, if_pos hC, zKQ, zQL]⟩
end Go.Proofs.YtcihcbfcgjepfaaGreatDoor
