import Derived.Test.YtcihcbfcgjepfaaGreatDoorBfOwD
import Derived.Test.YtcihcbfcgjepfaaGreatDoorBfPrA
/- Desks: what holds of a desk holds behind each call. No condition but those stated. -/
set_option linter.unusedVariables false
set_option linter.unusedSimpArgs false
namespace Go.Proofs.YtcihcbfcgjepfaaGreatDoor
open Go.Sh Go.RowKit
variable {σ : Dsk} {u : Nat}
def Dsk.put (σ : Dsk) (u : Nat) (recs : List Rec) (x : Usr) (lk : Int -> Option Int) : Dsk := ({ σ with recs := recs, lk := lk } : Dsk).setU u x
theorem Inv.chg (h : Inv σ) (hu : u < 4) {recs : List Rec} {x : Usr} {lk : Int -> Option Int} (hr : ∀ r ∈ recs, validR σ.flds σ.page r = 0) (hlen : σ.recs.length <= recs.length) (ha : ∀ r ∈ x.ap, validR σ.flds σ.page r = 0)
    (hc : ∀ c ∈ x.ch, (validR σ.flds σ.page c.2.1 = 0 /\ validR σ.flds σ.page c.2.2 = 0) /\ 1 <= c.1 /\ c.1 <= recs.length) (hn : (x.ch.map Prod.fst).Nodup) (hat : x.at_ <= recs.length /\ -x.at_ <= x.ap.length)
    (hrw : x.rows = true -> x.ap ≠ [] -> x.ap.length = 1 /\ x.at_ = -1) (hN : recs.length + x.ap.length <= σ.recs.length + (σ.us u).ap.length ∨ (allN σ < 300 /\ recs.length + x.ap.length <= σ.recs.length + (σ.us u).ap.length + 1))
    (hl : ∀ k v, lk k = some v -> 1 <= k /\ k <= recs.length /\ 0 <= v /\ v < 4) : Inv (σ.put u recs x lk) := by
  have us : ∀ v, (σ.put u recs x lk).us v = if v = u then x else σ.us v := fun v => rfl
  refine ⟨h.pg, h.vf, hr, fun v hv r hr' => ?_, fun v hv c hc' => ?_, fun v hv => ?_, fun v hv => ?_, fun v hv h1 h2 => ?_, ?_, hl⟩
  · rw [us] at hr'
    by_cases e : v = u
    · rw [if_pos e] at hr'; exact ha r hr'
    · rw [if_neg e] at hr'; exact h.ga v hv r hr'
  · rw [us] at hc'
    by_cases e : v = u
    · rw [if_pos e] at hc'; exact hc c hc'
    · rw [if_neg e] at hc'
      have h1 := h.gc v hv c hc'
      exact ⟨h1.1, h1.2.1, by show c.1 <= (recs.length : Int); omega⟩
  · rw [us]
    by_cases e : v = u
    · rw [if_pos e]; exact hn
    · rw [if_neg e]; exact h.cn v hv
  · rw [us]
    by_cases e : v = u
    · rw [if_pos e]; exact hat
    · rw [if_neg e]
      have h1 := h.at_ v hv
      exact ⟨by show (σ.us v).at_ <= (recs.length : Int); omega, h1.2⟩
  · rw [us] at h1 h2 ⊢
    by_cases e : v = u
    · rw [if_pos e] at h1 h2 ⊢; exact hrw h1 h2
    · rw [if_neg e] at h1 h2 ⊢; exact h.rw_ v hv h1 h2
  · have h1 := h.nn
    unfold allN at h1 hN ⊢
    simp only [us]
    have eR : (σ.put u recs x lk).recs = recs := rfl
    rw [eR]
    rcases (by omega : u = 0 ∨ u = 1 ∨ u = 2 ∨ u = 3) with rfl | rfl | rfl | rfl <;> simp <;> omega
theorem setU_put (x : Usr) : σ.setU u x = σ.put u σ.recs x σ.lk := rfl
theorem Inv.mode (h : Inv σ) (v m : Int) : Inv (modeS v m σ) := by
  unfold modeS
  split
  · next hc =>
    unfold modeC at hc
    split at hc
    · cases hc
    · next hv =>
      split at hc
      · cases hc
      · split at hc
        · cases hc
        · next he =>
          have hv : isU v = true := by simpa using hv
          have hu : v.toNat < 4 := by simp [isU] at hv; omega
          have he : (σ.us v.toNat).emp = true := by simpa using he
          have hap : (σ.us v.toNat).ap = [] := by
            simp [Usr.emp] at he; exact he.2
          rw [setU_put]
          refine h.chg hu h.gr (Nat.le_refl _) (h.ga _ hu) (h.gc _ hu) (h.cn _ hu) (h.at_ _ hu) (fun _ e => absurd hap e) (.inl (Nat.le_refl _)) h.lr
  · exact h
theorem apply_all_right (h : Inv σ) (hu : u < 4) : ∀ r ∈ applyAll (σ.us u).ch σ.recs, validR σ.flds σ.page r = 0 := fun r hr => by
  obtain ⟨i, hi⟩ := List.getElem?_of_mem hr
  unfold applyAll at hi
  rw [List.getElem?_mapIdx] at hi
  obtain ⟨r0, h0, e⟩ := Option.map_eq_some_iff.1 hi
  have g0 := h.gr r0 (List.mem_of_getElem? h0)
  cases hg : AL.get (σ.us u).ch ((i : Int) + 1) with
  | none => rw [hg] at e; rw [← e]; exact g0
  | some c =>
    rw [hg] at e
    rw [← e]
    exact apply_right (h.gc u hu _ (AL.get_mem hg)).1.2 g0
theorem Inv.stored (h : Inv σ) (hu : u < 4) : Inv (storedS u σ) := by
  have hat := h.at_ u hu
  have e : storedS u σ = σ.put u (applyAll (σ.us u).ch σ.recs ++ (σ.us u).ap) { σ.us u with at_ := if (σ.us u).at_ < 0 then (σ.recs.length : Int) - (σ.us u).at_ else (σ.us u).at_, ch := [], ap := [] } fun k => if σ.lk k = some (u : Int) then none else σ.lk k := by
    simp only [storedS, cleanS, Dsk.put, Dsk.setU, Dsk.mk.injEq, true_and, and_true]
    funext v
    by_cases e : v = u
    · simp [e]
    · simp [e]
  rw [e]
  refine h.chg hu (fun r hr => ?_) (by rw [List.length_append, applyAll_len]; omega) (by simp) (by simp) (by simp) ⟨?_, ?_⟩ (by simp) (.inl (by rw [List.length_append, applyAll_len]; simp)) fun k v hk => ?_
  · rcases List.mem_append.1 hr with hr | hr
    · exact apply_all_right h hu r hr
    · exact h.ga u hu r hr
  · rw [List.length_append, applyAll_len]
    show (if (σ.us u).at_ < 0 then (σ.recs.length : Int) - (σ.us u).at_ else (σ.us u).at_) <= _
    split <;> omega
  · show -(if (σ.us u).at_ < 0 then (σ.recs.length : Int) - (σ.us u).at_ else (σ.us u).at_) <= 0
    split <;> omega
  · rw [List.length_append, applyAll_len]
    split at hk
    · cases hk
    · have := h.lr k v hk; omega
theorem Inv.store (h : Inv σ) (hu : u < 4) (f : Bool) : Inv (storeS u f σ) := by
  unfold storeS; split
  · exact h.stored hu
  · exact h
theorem Inv.storeE (h : Inv σ) (v : Int) (f : Bool) : Inv (storeES v f σ) := by
  unfold storeES; split
  · next hv => exact h.store (by simp [isU] at hv; omega) f
  · exact h
theorem Inv.leave (h : Inv σ) (hu : u < 4) : Inv (leaveS u σ) := by
  unfold leaveS; split
  · exact h
  · exact h.store hu false
theorem stored_ap (u : Nat) (σ : Dsk) : ((storedS u σ).us u).ap = [] /\ ((storedS u σ).us u).ch = [] := by simp [storedS, cleanS, Dsk.setU]
theorem leave_emp (h : leaveC u σ = 0) (hr : (σ.us u).rows = true) : ((leaveS u σ).us u).emp = true := by
  unfold leaveC at h
  unfold leaveS
  split
  · next he =>
    rcases he with he | he
    · rw [hr] at he; cases he
    · exact he
  · next he =>
    rw [if_neg he] at h
    rw [storeS, if_pos h]
    obtain ⟨a, b⟩ := stored_ap u σ
    simp [Usr.emp, a, b]
theorem leave_len (u : Nat) (σ : Dsk) : σ.recs.length <= (leaveS u σ).recs.length := by
  unfold leaveS storeS
  split
  · exact Nat.le_refl _
  · split
    · show _ <= (applyAll (σ.us u).ch σ.recs ++ (σ.us u).ap).length
      rw [List.length_append, applyAll_len]; omega
    · exact Nat.le_refl _
theorem leave_fail (h : leaveC u σ ≠ 0) : leaveS u σ = σ := by
  unfold leaveC at h
  unfold leaveS
  split
  · rfl
  · next he =>
    rw [if_neg he] at h
    rw [storeS, if_neg h]
theorem emp_ap {x : Usr} (h : x.emp = true) : x.ap = [] := by simp [Usr.emp] at h; exact h.2
theorem Inv.go (h : Inv σ) (v k : Int) : Inv (goS v k σ) := by
  unfold goS
  split
  · exact h
  · next hc =>
    have hc : goC v k σ = 0 := by simpa using hc
    unfold goC at hc
    split at hc
    · cases hc
    · next hv =>
      have hv : isU v = true := by simpa using hv
      have hu : v.toNat < 4 := by simp [isU] at hv; omega
      split at hc
      · cases hc
      · next hs =>
        generalize v.toNat = u at *
        have hin : (k < 0 -> -k <= (σ.us u).ap.length) /\ k <= σ.recs.length := by
          unfold seenR at hs
          by_cases hk : k < 0
          · rw [if_pos hk] at hs
            refine ⟨fun _ => ?_, by omega⟩
            by_cases e : (-k - 1).toNat < (σ.us u).ap.length
            · omega
            · rw [List.getElem?_eq_none (by omega)] at hs; exact absurd rfl hs
          · rw [if_neg hk] at hs
            refine ⟨fun e => absurd e hk, ?_⟩
            by_cases e : k < 1 ∨ k > σ.recs.length
            · rw [if_pos e] at hs; exact absurd rfl hs
            · omega
        simp only
        by_cases e : k = (σ.us u).at_
        · rw [if_pos e]
          rw [setU_put]
          refine h.chg hu h.gr (Nat.le_refl _) (h.ga _ hu) (h.gc _ hu) (h.cn _ hu) ?_ (fun h1 h2 => ?_) (.inl (Nat.le_refl _)) h.lr
          · have := h.at_ u hu
            rw [← e] at this; exact this
          · have := h.rw_ u hu h1 h2
            exact ⟨this.1, by show k = -1; rw [e]; exact this.2⟩
        · rw [if_neg e] at hc ⊢
          have h' := h.leave hu
          rw [setU_put]
          have hlen := leave_len u σ
          by_cases hr : (σ.us u).rows = true
          · have he := emp_ap (leave_emp hc hr)
            have hk : ¬ k < 0 := fun hk => by
              have h1 := hin.1 hk
              have hne : (σ.us u).ap ≠ [] := fun e => by rw [e] at h1; simp at h1; omega
              have h2 := h.rw_ u hu hr hne
              omega
            refine h'.chg hu h'.gr (Nat.le_refl _) (h'.ga _ hu) (h'.gc _ hu) (h'.cn _ hu) ⟨?_, ?_⟩ (fun _ e => absurd he e) (.inl (Nat.le_refl _)) h'.lr
            · show k <= _; omega
            · show -k <= _; omega
          · have hr : (σ.us u).rows = false := by simpa using hr
            have hl : leaveS u σ = σ := by rw [leaveS, if_pos (.inl hr)]
            rw [hl] at h' ⊢
            refine h'.chg hu h'.gr (Nat.le_refl _) (h'.ga _ hu) (h'.gc _ hu) (h'.cn _ hu) ⟨?_, ?_⟩ (fun h1 _ => ?_) (.inl (Nat.le_refl _)) h'.lr
            · show k <= _; exact hin.2
            · show -k <= _
              by_cases hk : k < 0
              · exact hin.1 hk
              · omega
            · have : (σ.us u).rows = true := h1
              rw [hr] at this; cases this
end Go.Proofs.YtcihcbfcgjepfaaGreatDoor

/- Desks: what holds of a desk holds behind Set, Mark, Revert, Fall. No condition but those stated. -/
set_option linter.unusedVariables false
set_option linter.unusedSimpArgs false
namespace Go.Proofs.YtcihcbfcgjepfaaGreatDoor
open Go.Sh Go.RowKit
variable {σ : Dsk} {u : Nat}
theorem mem_put {κ ν : Type} [DecidableEq κ] : ∀ {l : List (κ × ν)} {k : κ} {v : ν} {p : κ × ν}, p ∈ AL.put l k v -> p ∈ l ∨ p = (k, v)
  | [], k, v, p, h => by simp [AL.put] at h; exact .inr h
  | (a, b) :: l, k, v, p, h => by
    simp only [AL.put] at h
    by_cases e : a = k
    · rw [if_pos e] at h
      rcases List.mem_cons.1 h with h | h
      · right; rw [h, e]
      · exact .inl (List.mem_cons_of_mem _ h)
    · rw [if_neg e] at h
      rcases List.mem_cons.1 h with h | h
      · left; rw [h]; exact List.mem_cons_self ..
      · rcases mem_put h with h | h
        · exact .inl (List.mem_cons_of_mem _ h)
        · exact .inr h
theorem mem_modify {α : Type} {f : α -> α} : ∀ {l : List α} {i : Nat} {x : α}, x ∈ l.modify i f -> x ∈ l ∨ ∃ y ∈ l, x = f y
  | [], i, x, h => by simp at h
  | y :: l, 0, x, h => by
    rw [List.modify_zero_cons] at h
    rcases List.mem_cons.1 h with h | h
    · exact .inr ⟨y, List.mem_cons_self .., h⟩
    · exact .inl (List.mem_cons_of_mem _ h)
  | y :: l, i + 1, x, h => by
    rw [List.modify_succ_cons] at h
    rcases List.mem_cons.1 h with h | h
    · left; rw [h]; exact List.mem_cons_self ..
    · rcases mem_modify h with h | ⟨z, hz, h⟩
      · exact .inl (List.mem_cons_of_mem _ h)
      · exact .inr ⟨z, List.mem_cons_of_mem _ hz, h⟩
theorem put_same_u (recs : List Rec) (lk : Int -> Option Int) : σ.put u recs (σ.us u) lk = { σ with recs := recs, lk := lk } := by
  simp only [Dsk.put, Dsk.setU, Dsk.mk.injEq, true_and, and_true]
  funext v
  by_cases e : v = u
  · rw [if_pos e, e]
  · rw [if_neg e]
theorem recK_right (h : Inv σ) {k : Int} (h1 : 1 <= k) (h2 : k <= σ.recs.length) : validR σ.flds σ.page (recK σ k) = 0 := by
  obtain ⟨r, hr⟩ := at_k (l := σ.recs) (k := (k - 1).toNat) (by omega)
  have : recK σ k = r := by unfold recK; rw [List.getD_eq_getElem?_getD, hr]; rfl
  rw [this]; exact h.gr r (List.mem_of_getElem? hr)
theorem Inv.alter (h : Inv σ) (hu : u < 4) (h0 : (σ.us u).at_ ≠ 0) {f : Rec -> Rec} (hf : ∀ r, validR σ.flds σ.page r = 0 -> validR σ.flds σ.page (f r) = 0) : Inv (alterS u f σ) := by
  have hat := h.at_ u hu
  simp only [alterS]
  by_cases c1 : (σ.us u).at_ < 0
  · rw [if_pos c1, setU_put]
    refine h.chg hu h.gr (Nat.le_refl _) (fun r hr => ?_) (h.gc u hu) (h.cn u hu) ⟨hat.1, by simpa using hat.2⟩ (fun h1 h2 => ?_) (.inl (by simp)) h.lr
    · rcases mem_modify hr with hr | ⟨y, hy, rfl⟩
      · exact h.ga u hu r hr
      · exact hf y (h.ga u hu y hy)
    · have hne : (σ.us u).ap ≠ [] := fun e => h2 (by simp [e])
      have := h.rw_ u hu h1 hne
      exact ⟨by simpa using this.1, this.2⟩
  rw [if_neg c1]
  by_cases c2 : (σ.us u).mode = 0
  · rw [if_pos c2]
    have e := put_same_u (σ := σ) (u := u) (σ.recs.modify ((σ.us u).at_ - 1).toNat f) σ.lk
    rw [show ({ σ with recs := σ.recs.modify ((σ.us u).at_ - 1).toNat f } : Dsk) = { σ with recs := σ.recs.modify ((σ.us u).at_ - 1).toNat f, lk := σ.lk } from rfl, ← e]
    refine h.chg hu (fun r hr => ?_) (by simp) (h.ga u hu) (by simpa using h.gc u hu) (h.cn u hu) (by simpa using hat) (h.rw_ u hu) (.inl (by simp)) (by simpa using h.lr)
    rcases mem_modify hr with hr | ⟨y, hy, rfl⟩
    · exact h.gr r hr
    · exact hf y (h.gr y hy)
  · rw [if_neg c2]
    have hk1 : 1 <= (σ.us u).at_ := by omega
    have hL : ∃ lk', lockS u σ = { σ with lk := lk' } /\ ∀ k v, lk' k = some v -> 1 <= k /\ k <= σ.recs.length /\ 0 <= v /\ v < 4 := by
      simp only [lockS]
      split
      · exact ⟨σ.lk, rfl, h.lr⟩
      · refine ⟨_, rfl, fun k v hk => ?_⟩
        split at hk
        · next e => cases hk; omega
        · exact h.lr k v hk
    obtain ⟨lk', eL, hl⟩ := hL
    rw [eL]
    have e : ({ σ with lk := lk' } : Dsk).setU u { σ.us u with ch := AL.put (σ.us u).ch (σ.us u).at_ (((AL.get (σ.us u).ch (σ.us u).at_).getD (recK σ (σ.us u).at_, recK σ (σ.us u).at_)).1, f ((AL.get (σ.us u).ch (σ.us u).at_).getD (recK σ (σ.us u).at_, recK σ (σ.us u).at_)).2) }
      = σ.put u σ.recs { σ.us u with ch := AL.put (σ.us u).ch (σ.us u).at_ (((AL.get (σ.us u).ch (σ.us u).at_).getD (recK σ (σ.us u).at_, recK σ (σ.us u).at_)).1, f ((AL.get (σ.us u).ch (σ.us u).at_).getD (recK σ (σ.us u).at_, recK σ (σ.us u).at_)).2) } lk' := rfl
    rw [e]
    have hg : validR σ.flds σ.page ((AL.get (σ.us u).ch (σ.us u).at_).getD (recK σ (σ.us u).at_, recK σ (σ.us u).at_)).1 = 0 /\ validR σ.flds σ.page ((AL.get (σ.us u).ch (σ.us u).at_).getD (recK σ (σ.us u).at_, recK σ (σ.us u).at_)).2 = 0 := by
      have hr := recK_right h hk1 hat.1
      cases hg : AL.get (σ.us u).ch (σ.us u).at_ with
      | none => exact ⟨hr, hr⟩
      | some c => exact (h.gc u hu _ (AL.get_mem hg)).1
    refine h.chg hu h.gr (Nat.le_refl _) (h.ga u hu) (fun c hc => ?_) (AL.nodup_put (h.cn u hu) _ _) hat (h.rw_ u hu) (.inl (Nat.le_refl _)) hl
    rcases mem_put hc with hc | rfl
    · exact h.gc u hu c hc
    · exact ⟨⟨hg.1, hf _ hg.2⟩, hk1, hat.1⟩
theorem Inv.set (h : Inv σ) (v : Int) (field : ByteArray) (x : Val) : Inv (setS v field x σ) := by
  unfold setS
  split
  · next hc =>
    unfold setC at hc
    split at hc
    · cases hc
    · next hv =>
      have hv : isU v = true := by simpa using hv
      have hu : v.toNat < 4 := by simp [isU] at hv; omega
      split at hc
      · cases hc
      · next h0 =>
        cases hi : idxN σ.flds field with
        | none => exact h
        | some i =>
          rw [hi] at hc
          simp only at hc ⊢
          split at hc
          · next hne => exact absurd hc hne
          · next he =>
            have he : (fitS (σ.flds.getD i default) σ.page x).2 = 0 := by simpa using he
            refine h.alter hu h0 fun r hr => set_right hr fun f hf => ?_
            rw [List.getD_eq_getElem?_getD, hf]
            rw [List.getD_eq_getElem?_getD, hf] at he
            exact fit_fits he
  · exact h
theorem Inv.mark (h : Inv σ) (v : Int) (g : Bool) : Inv (markS v g σ) := by
  unfold markS
  split
  · next hc =>
    unfold markC at hc
    split at hc
    · cases hc
    · next hv =>
      have hv : isU v = true := by simpa using hv
      have hu : v.toNat < 4 := by simp [isU] at hv; omega
      split at hc
      · cases hc
      · next h0 => exact h.alter hu h0 fun r hr => mark_right hr g
  · exact h
end Go.Proofs.YtcihcbfcgjepfaaGreatDoor

/- Desks: Go. No condition but those stated. -/
set_option maxRecDepth 100000
set_option linter.unusedVariables false
set_option linter.unusedSimpArgs false
namespace Go.Proofs.YtcihcbfcgjepfaaGreatDoor
open Go.Sh Go.RowKit
variable {w w' : World} {d d' : DLay} {val : Nat -> List Val} {mu : Int}
theorem go_c (h : DeskAt w d 0 val) (hI : Inv (absD d val)) (u k : Int) :
    Calls Tryz.prog 15 #[d.ptr, .int .i64 u, .int .i64 k] w fun e w' => e = .returned (.int .i64 (goC u k (absD d val))) /\ ∃ d' val', DLeft w w' d d' 0 val' /\ absD d' val' = goS u k (absD d val) := by
  refine F15_calls _ u k w _ ((enter_held h (Pu.refl w) u).mono ?_)
  rintro e w2 ⟨rfl, h2, hf2, hs2⟩
  have bad : ∀ {w3 : World} (n : Int), Held w w3 d val -> goC u k (absD d val) = n -> n ≠ 0 -> runD Tryz.prog [leaveD d] w3 fun w' => Ending.returned (.int .i64 n) = .returned (.int .i64 (goC u k (absD d val))) /\ ∃ d' val', DLeft w w' d d' 0 val' /\ absD d' val' = goS u k (absD d val) := fun {w3} n h3 hn h0 =>
    h3.left fun w' hL _ _ => ⟨by rw [hn], d, val, hL, by rw [goS, if_pos (by rw [hn]; exact h0)]⟩
  refine ⟨_, _, _, rfl, Br.of (fun c => ?_) (fun c => ?_)⟩
  · have hu := uC_ne c
    have e1 : uC u = 1 := by rw [uC, if_neg hu]
    rw [e1]
    exact bad 1 h2 (by rw [goC, if_pos hu]) (by decide)
  have hu := uC_eq c
  obtain ⟨n, rfl, hn⟩ := isU_nat hu
  rw [uP_ok hn]
  have eA : ((absD d val).us n).at_ = d.at_ n := rfl
  refine (seen_c h2.at_ hn k (by have := hI.ah hn; omega) (by have := hI.rh; omega)).mono ?_
  rintro e w3 ⟨rfl, hp3⟩
  refine ⟨_, ((seenH d n k).getD h0).s, _, rfl, alB fun w4 hp4 hb4 => stA_fill hb4 bs77.symm rfl rfl fun w5 hb5 hf5 _ => ?_⟩
  have hp25 : Pu w2 w5 := (hp3.trans hp4).andNew hf5 fun i hi => by rw [show i = w3.heap.size from hi]; exact hp3.size
  have h5 := h2.pu hp25
  have es : seenR (absD d val) n k = (seenH d n k).map (toR val) := (seenH_abs d val n k).symm
  have e0 : goC (n : Int) k (absD d val) = if seenR (absD d val) n k = none then 4 else if k = d.at_ n then 0 else leaveC n (absD d val) := by
    rw [goC, if_neg (by simp [hu]), Int.toNat_natCast, eA]
  refine Br.of (fun c1 => ?_) (fun c1 => ?_)
  · have c1 : seenH d n k = none := by simpa using c1
    exact bad 4 h5 (by rw [e0, es, c1]; rfl) (by decide)
  have c1 : (seenH d n k).isSome = true := by simpa using c1
  obtain ⟨x, hx⟩ := Option.isSome_iff_exists.1 c1
  rw [es, hx, if_neg (by simp)] at e0
  -- the end, behind leaving
  have fin : ∀ {w8 : World} {d8 : DLay} {val8 : Nat -> List Val}, DLeft w w8 d d8 1 val8 -> goC (n : Int) k (absD d val) = 0 -> absD d8 val8 = (if k = d.at_ n then absD d val else leaveS n (absD d val)) ->
      ptrE (some (uA d n)) fun a10 => st1 (a10.add 1) (.int .i64 k) w8 fun w11 => runD Tryz.prog [leaveD d] w11 fun w12 => Ending.returned (.int .i64 0) = .returned (.int .i64 (goC (n : Int) k (absD d val))) /\ ∃ d' val', DLeft w w12 d d' 0 val' /\ absD d' val' = goS n k (absD d val) := fun {w8 d8 val8} L8 hc hab => by
    have eu : uA d n = uA d8 n := by show (⟨d.S, _, _⟩ : Addr) = ⟨d8.S, _, _⟩; rw [L8.ptr]
    rw [ptrE_some, eu, add_def]
    refine L8.sys.own (d' := d8.withAt n k) (mu' := 1) (by omega) (deskC_at hn k) rfl rfl (fun x hb => hb.same _ _) fun w11 h11 hf11 hs11 => ?_
    have L11 : DLeft w w11 d (d8.withAt n k) 1 val8 := L8.trans ⟨h11, hf11.mono fun i hi _ => by rw [show i = d8.S from hi, L8.sys.bd.oS]; simp, fun _ h => .inl h, rfl⟩
    rw [← show leaveD (d8.withAt n k) = leaveD d by unfold leaveD DLay.ptr; rw [L11.ptr]]
    refine leave_left L11 fun w' hL _ _ => ⟨by rw [hc], _, _, hL, ?_⟩
    have eG : goS (n : Int) k (absD d val) = (if k = d.at_ n then absD d val else leaveS n (absD d val)).setU n { (if k = d.at_ n then absD d val else leaveS n (absD d val)).us n with at_ := k } := by
      rw [goS, if_neg (by rw [hc]; simp)]
      simp only [Int.toNat_natCast, eA]
    rw [abs_at, hab, eG]
  refine ⟨d.at_ n, h5.at_.uAt hn, Br.of (fun c2 => ?_) (fun c2 => ?_)⟩
  · have c2 : k ≠ d.at_ n := bntrue c2
    rw [if_neg c2] at e0
    refine (stored_c h5.at_ hI hn).mono ?_
    rintro e w8 ⟨rfl, d8, val8, hL, habs⟩
    refine ⟨_, rfl, Br.of (fun c3 => ?_) (fun c3 => ?_)⟩
    · have c3 : leaveC n (absD d val) ≠ 0 := bntrue c3
      have LL := h5.dl.trans hL
      rw [← show d8.ptr = d.ptr by unfold DLay.ptr; rw [hL.ptr]]
      exact leave_left LL fun w' hL' _ _ => ⟨by rw [e0], d8, val8, hL', by rw [habs, leave_fail c3, goS, if_pos (by rw [e0]; exact c3)]⟩
    · have c3 : leaveC n (absD d val) = 0 := bnfalse c3
      exact fin (h5.dl.trans hL) (by rw [e0, c3]) (by rw [habs, if_neg c2])
  · have c2 : k = d.at_ n := bnfalse c2
    exact fin h5.dl (by rw [e0, if_pos c2]) (by rw [if_pos c2])
end Go.Proofs.YtcihcbfcgjepfaaGreatDoor

/- Desks: Append. No condition but those stated. -/
set_option maxRecDepth 100000
set_option linter.unusedVariables false
set_option linter.unusedSimpArgs false
namespace Go.Proofs.YtcihcbfcgjepfaaGreatDoor
open Go.Sh Go.RowKit
variable {w w' : World} {d d' : DLay} {val : Nat -> List Val} {mu : Int}
end Go.Proofs.YtcihcbfcgjepfaaGreatDoor

/- Desks: Append, walked. No condition but those stated. -/
set_option maxRecDepth 100000
set_option linter.unusedVariables false
set_option linter.unusedSimpArgs false
namespace Go.Proofs.YtcihcbfcgjepfaaGreatDoor
open Go.Sh Go.RowKit
variable {w w' : World} {d d' : DLay} {val : Nat -> List Val} {mu : Int}
end Go.Proofs.YtcihcbfcgjepfaaGreatDoor

/- Desks: a new desk. No condition but those stated. -/
set_option maxRecDepth 100000
set_option linter.unusedVariables false
set_option linter.unusedSimpArgs false
namespace Go.Proofs.YtcihcbfcgjepfaaGreatDoor
open Go.Sh Go.RowKit
variable {w w' : World} {d d' : DLay} {val : Nat -> List Val} {mu : Int}
theorem firstBad_all {l : List Fld} {p : Int} : ∀ {rs : List Rec}, firstBad l p rs = 0 -> ∀ r ∈ rs, validR l p r = 0
  | [], _, r, h => by cases h
  | x :: rs, h, r, hr => by
    unfold firstBad at h
    split at h
    · next hx => exact absurd h hx
    · next hx =>
      rcases List.mem_cons.1 hr with rfl | hr
      · simpa using hx
      · exact firstBad_all h r hr
theorem inv_new {t : Tbl} (h : validT t = 0) : Inv (Dsk.new t) := by
  unfold validT at h
  split at h
  · next hp =>
    split at h
    · next hf => exact absurd h hf
    · next hf =>
      split at h
      · cases h
      · next hl =>
        refine ⟨hp, (by simpa using hf : validF t.fields = 0), firstBad_all h, ?_, ?_, ?_, ?_, ?_, ?_, ?_⟩
        · intro u hu r hr; simp [Dsk.new, Usr.new] at hr
        · intro u hu c hc; simp [Dsk.new, Usr.new] at hc
        · intro u hu; simp [Dsk.new, Usr.new]
        · intro u hu; simp [Dsk.new, Usr.new]
        · intro u hu _ h2; simp [Dsk.new, Usr.new] at h2
        · simp [allN, Dsk.new, Usr.new]; omega
        · intro k v hk; simp [Dsk.new] at hk
  · cases h
def valOf : List HRec -> List Rec -> Nat -> List Val
  | h :: hs, r :: rs => fun b => if b ∈ blkOf h.s then r.v else valOf hs rs b
  | _, _ => fun _ => []
theorem row_none {s : SV} {l : List Val} (h : RowAt w 28 3 s (l.flatMap valV)) (hn : s.a = none) : l = [] := by
  cases l with
  | nil => rfl
  | cons v l =>
    obtain ⟨a, ha⟩ := row_some (i := 0) h (by simp)
    rw [hn] at ha; cases ha
theorem valOf_hv : ∀ {hs : List HRec} {rs : List Rec}, RecsAt w hs rs -> (vB hs).Nodup -> hs.map (toR (valOf hs rs)) = rs
  | [], [], _, _ => rfl
  | h :: hs, r :: rs, ⟨⟨h1, h2⟩, h3⟩, hn => by
    rw [vB_cons] at hn
    obtain ⟨_, n2, n3⟩ := List.nodup_append.1 hn
    have ih := valOf_hv h3 n2
    simp only [List.map_cons]
    congr 1
    · rw [toR, h1]
      unfold hv
      cases ha : h.s.a with
      | none =>
        have := row_none h2 ha
        cases r; simp only at this ⊢; rw [this]
      | some a =>
        simp only [valOf]
        rw [if_pos (by simp [blkOf, ha])]
    · refine Eq.trans (List.map_congr_left fun x hx => ?_) ih
      have : hv (valOf (h :: hs) (r :: rs)) x = hv (valOf hs rs) x := by
        unfold hv
        cases ha : x.s.a with
        | none => rfl
        | some a =>
          simp only [valOf]
          rw [if_neg fun e => n3 _ e _ (mem_vB hx (show a.block ∈ blkOf x.s by simp [blkOf, ha])) rfl]
      rw [toR, this]; rfl
theorem valOf_row : ∀ {hs : List HRec} {rs : List Rec}, RecsAt w hs rs -> (vB hs).Nodup -> ∀ x ∈ hs, RowAt w 28 3 x.s ((hv (valOf hs rs) x).flatMap valV)
  | hs, rs, h, hn, x, hx => by
    obtain ⟨i, hi⟩ := List.getElem?_of_mem hx
    have e := valOf_hv h hn
    have h1 : rs[i]? = some (toR (valOf hs rs) x) := by rw [← e, List.getElem?_map, hi, e]; rfl
    obtain ⟨y, hy, _, hr⟩ := h.at_ h1
    rw [hi] at hy; cases hy
    exact hr
def deskN (page : Int) (fs rs : SV) (L c0 k : Nat) : Array Value := #[.int .i32 0, .int .u32 0, .int .i64 page, .slice fs.a fs.len fs.cap, .slice rs.a rs.len rs.cap,
  .int .i64 0, .int .i64 0, .map (if 0 < k then some (c0 + 0) else none), .slice none 0 0, .int .i64 0, .int .i64 0, .map (if 1 < k then some (c0 + 1) else none), .slice none 0 0,
  .int .i64 0, .int .i64 0, .map (if 2 < k then some (c0 + 2) else none), .slice none 0 0, .int .i64 0, .int .i64 0, .map (if 3 < k then some (c0 + 3) else none), .slice none 0 0, .map (some L)]
theorem deskN_set {page : Int} {fs rs : SV} {L c0 k : Nat} (hk : k < 4) : (deskN page fs rs L c0 k).setIfInBounds (5 + k * 4 + 2) (.map (some (c0 + k))) = deskN page fs rs L c0 (k + 1) := by
  rcases (by omega : k = 0 ∨ k = 1 ∨ k = 2 ∨ k = 3) with rfl | rfl | rfl | rfl <;> rfl
def newLay (S L c0 : Nat) (t : Tbl) (fs rs : SV) (hs : List HRec) : DLay where
  sd := false
  o b := if b = S then some .S else if b = L then some .L else if c0 <= b /\ b < c0 + 4 then some (.C (b - c0)) else if b ∈ blkOf fs then some .F else if b ∈ blkOf rs then some .R else if b ∈ vB hs then some .V else none
  S := S
  L := L
  C u := c0 + u
  page := t.page
  flds := t.fields
  fs := fs
  rs := rs
  rh := hs
  mode _ := 0
  at_ _ := 0
  asv _ := ⟨none, 0, 0⟩
  ah _ := []
  cs _ := ⟨none, 0, 0⟩
  ch _ := []
  lk _ := none
theorem new_c {t : Tbl} {f r : SV} (h : RdTbl w t f r) (hl : Lim.ok t.fields) : Calls Tryz.prog 11 #[tblA t f r] w fun e w' => Pu w w' /\ (validT t ≠ 0 -> e = .returned (.tuple #[.pointer none, .int .i64 (validT t)])) /\
    (validT t = 0 -> ∃ d val, e = .returned (.tuple #[d.ptr, .int .i64 0]) /\ DeskAt w' d 0 val /\ absD d val = Dsk.new t /\ ∀ b, d.o b ≠ none -> w.heap.size <= b) := by
  refine F11_calls _ _ _ w _ (alB fun w1 hp1 hb1 => ?_)
  refine ⟨_, cl hb1 0, f, cl hb1 1, r, cl hb1 2, (validTbl_c (h.pu hp1) hl).mono ?_⟩
  rintro e w2 ⟨rfl, hp2⟩
  have hp02 := hp1.trans hp2
  refine ⟨_, rfl, Br.of (fun c => ?_) (fun c => dwE_intro fun w8 hp8 _ => ?_)⟩
  · have c := bntrue c
    exact ⟨hp02, fun _ => rfl, fun e => absurd e c⟩
  have c := bnfalse c
  have hI := inv_new c
  have hb8 := hp8.blk (hp2.blk hb1)
  have hp08 := hp02.trans hp8
  have z1 : w.heap.size < w1.heap.size := blk_lt hb1
  have zz : w1.heap.size <= w8.heap.size := (hp2.trans hp8).size
  have f16 : t.fields.length <= 16 := hI.f16
  have r300 : t.recs.length <= 300 := hI.r300
  refine ⟨fun y => Pu w8 y, Pu.refl _, f, fun y hy => cl (hy.blk hb8) 1, r, fun y hy => cl (hy.blk hb8) 2, (cloneF_c (h.fields.pu hp08) (by omega)).mono ?_⟩
  rintro e w9 ⟨qf, rfl, hqf, hqn, hp9⟩
  refine ⟨qf, rfl, hp9, (copiedAll_c (RdRecs.of (h.recs.pu (hp08.trans hp9))) (by omega) fun x hx => by have h1 := validR_right (hI.gr x hx); have e : (Dsk.new t).flds.length = t.fields.length := rfl; omega).mono ?_⟩
  rintro e w10 ⟨qr, hs, rfl, hN, hp10⟩
  have hb10 := hp10.blk (hp9.blk hb8)
  have z9 := hp9.size
  have z10 := hp10.size
  refine ⟨qr, rfl, ?_⟩
  rw [add_def]
  refine st1_intro hb10 (by show 0 + 1 < 3; omega) fun w11 hw11 hb11 => ?_
  rw [add_def]
  refine st1_intro hb11 (by show 0 + 2 < 3; omega) fun w12 hw12 hb12 => ?_
  have hf12 : Fr (· = w.heap.size) w10 w12 := by
    refine (show Fr (· = w.heap.size) w10 w11 by rw [hw11]; exact Fr.cell w10 _ _ _).trans (show Fr (· = w.heap.size) w11 w12 by rw [hw12]; exact Fr.cell w11 _ _ _) fun i hi _ => hi
  have s12 : w12.heap.size = w10.heap.size := by rw [hw12, hw11]; simp
  have n1 : ∀ {b : Nat}, w8.heap.size <= b -> ¬ b = w.heap.size := fun {b} hb e => by omega
  have hqf12 := (hqf.pu hp10).fr hf12 fun b hb => n1 (hqn b hb)
  have hrow12 := hN.row.fr hf12 fun b hb => n1 (by have := hN.new b hb; omega)
  have hrec12 := hN.recs.fr hf12 fun b hb => n1 (by have := (hN.vnew b hb).1; omega)
  have hp012 : Pu w w12 := ((hp08.trans hp9).trans hp10).andNew hf12 fun i hi => by rw [show i = w.heap.size from hi]; exact Nat.le_refl _
  refine ⟨_, cl hb12 0, qf, cl hb12 1, qr, cl hb12 2, alE_intro fun w13 hw13 => ?_⟩
  have hp13 : Pu w12 w13 := by rw [hw13]; exact Pu.alloc w12 _
  have s13 : w13.heap.size = w12.heap.size + 1 := by rw [hw13]; simp
  have hm13 : MapAt w13 intK intK w12.heap.size ([] : List (Int × Int)) := by rw [hw13]; exact MapAt.new w12 _ _
  refine alB fun w14 hp14 hb14 => ?_
  have z14 := hp14.size
  have l14 : w13.heap.size < w14.heap.size := blk_lt hb14
  have zf : ∀ b ∈ blkOf qf, w8.heap.size <= b /\ b < w12.heap.size := fun b hb => ⟨hqn b hb, by rw [s12]; have := hqf.lt b hb; omega⟩
  have zr : ∀ b ∈ blkOf qr, w9.heap.size <= b /\ b < w12.heap.size := fun b hb => ⟨hN.new b hb, by rw [s12]; exact hN.row.lt b hb⟩
  have zv : ∀ b ∈ vB hs, w9.heap.size <= b /\ b < w12.heap.size := fun b hb => ⟨(hN.vnew b hb).1, by
    obtain ⟨x, hx, hxb⟩ := List.mem_flatMap.1 hb
    exact (valOf_row hrec12 hN.nd x hx).lt b hxb⟩
  have zfr : ∀ b ∈ blkOf qf, b < w9.heap.size := hqf.lt
  refine loopUp 4 (fun k t' w' => t' = (k : Int) /\ w'.heap.size = w14.heap.size + k /\ w'.heap[w13.heap.size]? = some (.cells (deskN t.page qf qr w12.heap.size w14.heap.size k) 93) /\ (∀ v, v < k -> MapAt w' intK chV (w14.heap.size + v) []) /\ Fr (· = w13.heap.size) w14 w') ⟨rfl, rfl, hb14, fun v hv => absurd hv (by omega), Fr.refl _ _⟩ ?_
  rintro k J t' w15 hk ⟨ht, hsz, hbk, hms, hf⟩ hJ
  obtain rfl : t' = (k : Int) := ht
  refine Br.of (fun d1 => ?_) (fun d1 => ?_)
  · have hk2 : k < 4 := by have := dtrue d1; omega
    refine alE_intro fun w16 hw16 => ?_
    have hp16 : Pu w15 w16 := by rw [hw16]; exact Pu.alloc w15 _
    have s16 : w16.heap.size = w15.heap.size + 1 := by rw [hw16]; simp
    have hm16 : MapAt w16 intK chV w15.heap.size [] := by rw [hw16]; exact MapAt.new w15 _ _
    refine ⟨by omega, by omega, ?_⟩
    rw [Int.toNat_natCast, add_def, add_def, add_def]
    have hb16 := hp16.blk hbk
    rw [show 0 + 5 + k * 4 + 2 = 5 + k * 4 + 2 by omega]
    refine st1_intro hb16 (by show 5 + k * 4 + 2 < 22; omega) fun w17 hw17 hb17 => ?_
    have hf17 : Fr (· = w13.heap.size) w16 w17 := by rw [hw17]; exact Fr.cell w16 _ _ _
    have s17 : w17.heap.size = w16.heap.size := by rw [hw17]; simp
    rw [wrap_in (by omega) (by omega)]
    refine hJ _ _ hk2 ⟨by omega, by omega, ?_, fun v hv => ?_, (hf.trans (Fr.pu hp16 : Fr (· = w13.heap.size) w15 w16) fun i hi _ => hi).trans hf17 fun i hi _ => hi⟩
    · rw [hb17, hsz, deskN_set hk2]
    · by_cases e : v = k
      · subst e
        rw [← hsz]
        exact hm16.fr hf17 (by omega)
      · exact ((hms v (by omega)).pu hp16).fr hf17 (by omega)
  · have hk2 : k = 4 := by have := dfalse d1; omega
    subst hk2
    have hpF : Pu w w15 := ((hp012.trans hp13).trans hp14).andNew hf fun i hi => by rw [show i = w13.heap.size from hi]; have := hp012.size; omega
    have hp1214 : Pu w12 w14 := hp13.trans hp14
    have nS : ∀ {b : Nat}, b < w12.heap.size + 1 -> ¬ b = w13.heap.size := fun {b} hb e => by omega
    have o0 : ∀ {b : Nat}, b < w12.heap.size -> (newLay w13.heap.size w12.heap.size w14.heap.size t qf qr hs).o b = if b ∈ blkOf qf then some .F else if b ∈ blkOf qr then some .R else if b ∈ vB hs then some .V else none := fun {b} hb => by
      show (if b = w13.heap.size then _ else if b = w12.heap.size then _ else if w14.heap.size <= b /\ b < w14.heap.size + 4 then _ else _) = _
      rw [if_neg (by omega), if_neg (by omega), if_neg (by omega)]
    refine ⟨hpF, fun e => absurd c e, fun _ => ⟨newLay w13.heap.size w12.heap.size w14.heap.size t qf qr hs, valOf hs t.recs, rfl, ⟨hbk, ?_, rfl⟩, ?_, fun b hb => ?_⟩⟩
    · have eAll : allH (newLay w13.heap.size w12.heap.size w14.heap.size t qf qr hs) = hs := by simp [allH, uH, chH, newLay]
      have hrecF : RecsAt w15 hs t.recs := (hrec12.fr (Fr.pu hp1214 : Fr (fun _ => False) w12 w14) fun _ _ h => h).fr hf fun b hb => nS (by have := zv b hb; omega)
      refine ⟨(hqf12.pu hp1214).fr hf fun b hb => nS (by have := zf b hb; omega), (hrow12.pu hp1214).fr hf fun b hb => nS (by have := zr b hb; omega), fun u hu => RowAt.nil _ _ _, fun _ u hu => hms u hu, fun e => (by cases e), ⟨[], (hm13.pu hp14).fr hf (nS (by omega)), fun k => rfl⟩, fun x hx => ?_, fun v hv => ⟨rfl, rfl⟩, by rw [eAll]; exact hN.nd, ?_, ?_, fun _ u hu => ?_, fun e => (by cases e), fun b hb => ?_, fun b hb => ?_, fun u hu b hb => by simp [newLay, blkOf] at hb, fun b hb => ?_, fun b hb => ?_⟩
      · rw [eAll] at hx; exact valOf_row hrecF hN.nd x hx
      · show (if w13.heap.size = w13.heap.size then _ else _) = _; rw [if_pos rfl]
      · show (if w12.heap.size = w13.heap.size then _ else if w12.heap.size = w12.heap.size then _ else _) = _; rw [if_neg (by omega), if_pos rfl]
      · show (if w14.heap.size + u = w13.heap.size then _ else if w14.heap.size + u = w12.heap.size then _ else if w14.heap.size <= w14.heap.size + u /\ w14.heap.size + u < w14.heap.size + 4 then some (DKey.C (w14.heap.size + u - w14.heap.size)) else _) = _
        rw [if_neg (by omega), if_neg (by omega), if_pos (by omega), Nat.add_sub_cancel_left]
      · replace hb : b ∈ blkOf qf := hb
        rw [o0 (zf b hb).2, if_pos hb]
      · replace hb : b ∈ blkOf qr := hb
        rw [o0 (zr b hb).2, if_neg (fun e => by have := zfr b e; have := zr b hb; omega), if_pos hb]
      · rw [eAll] at hb
        rw [o0 (zv b hb).2, if_neg (fun e => by have := zfr b e; have := zv b hb; omega), if_neg (hN.vnew b hb).2, if_pos hb]
      · have hb : (if b = w13.heap.size then some DKey.S else if b = w12.heap.size then some .L else if w14.heap.size <= b /\ b < w14.heap.size + 4 then some (.C (b - w14.heap.size)) else if b ∈ blkOf qf then some .F else if b ∈ blkOf qr then some .R else if b ∈ vB hs then some .V else none) ≠ none := hb
        by_cases e1 : b = w13.heap.size
        · omega
        rw [if_neg e1] at hb
        by_cases e2 : b = w12.heap.size
        · omega
        rw [if_neg e2] at hb
        by_cases e3 : w14.heap.size <= b /\ b < w14.heap.size + 4
        · omega
        rw [if_neg e3] at hb
        by_cases e4 : b ∈ blkOf qf
        · have := zf b e4; omega
        rw [if_neg e4] at hb
        by_cases e5 : b ∈ blkOf qr
        · have := zr b e5; omega
        rw [if_neg e5] at hb
        by_cases e6 : b ∈ vB hs
        · have := zv b e6; omega
        rw [if_neg e6] at hb; exact absurd rfl hb
    · have e := valOf_hv hrec12 hN.nd
      simp only [absD, newLay, Dsk.new, e]
      rfl
    · have hb : (if b = w13.heap.size then some DKey.S else if b = w12.heap.size then some .L else if w14.heap.size <= b /\ b < w14.heap.size + 4 then some (.C (b - w14.heap.size)) else if b ∈ blkOf qf then some .F else if b ∈ blkOf qr then some .R else if b ∈ vB hs then some .V else none) ≠ none := hb
      have := hp012.size
      by_cases e1 : b = w13.heap.size
      · omega
      rw [if_neg e1] at hb
      by_cases e2 : b = w12.heap.size
      · omega
      rw [if_neg e2] at hb
      by_cases e3 : w14.heap.size <= b /\ b < w14.heap.size + 4
      · omega
      rw [if_neg e3] at hb
      by_cases e4 : b ∈ blkOf qf
      · have := zf b e4; omega
      rw [if_neg e4] at hb
      by_cases e5 : b ∈ blkOf qr
      · have := zr b e5; omega
      rw [if_neg e5] at hb
      by_cases e6 : b ∈ vB hs
      · have := zv b e6; omega
      rw [if_neg e6] at hb; exact absurd rfl hb
end Go.Proofs.YtcihcbfcgjepfaaGreatDoor

/- Desks: the program's known desk: two users of one record. No condition but those stated. -/
set_option maxRecDepth 100000
set_option linter.unusedVariables false
set_option linter.unusedSimpArgs false
namespace Go.Proofs.YtcihcbfcgjepfaaGreatDoor
open Go.Sh Go.RowKit
variable {w w' : World} {d d' : DLay} {val : Nat -> List Val} {mu : Int}
structure One (w0 w : World) (d : DLay) (val : Nat -> List Val) (σ : Dsk) : Prop where
  pu : Pu w0 w
  at_ : DeskAt w d 0 val
  abs : absD d val = σ
  inv : Inv σ
  new : ∀ b, d.o b ≠ none -> w0.heap.size <= b
theorem One.step {w0 : World} {σ σ' : Dsk} {val' : Nat -> List Val} (h : One w0 w d val σ) (hL : DLeft w w' d d' 0 val') (ha : absD d' val' = σ') (hI : Inv σ') : One w0 w' d' val' σ' :=
  ⟨h.pu.andNew hL.fr fun i hi => h.new i hi, hL.sys, ha, hI, fun b hb => (hL.own b hb).elim (h.new b) fun hz => Nat.le_trans h.pu.size hz⟩
theorem One.plus {w0 w1 : World} {σ : Dsk} (h : One w0 w d val σ) (hp : Pu w w1) : One w0 w1 d val σ := ⟨h.pu.trans hp, h.at_.pu hp, h.abs, h.inv, h.new⟩
theorem rd_one {α : Type} [Enc α] {b : Nat} {vs : List Value} {ty : TypeId} {x : α} (hb : w.heap[b]? = some (.cells vs.toArray ty)) (h : Enc.rd w vs x) : RdSl w ⟨some ⟨b, 0, none⟩, 1, 1⟩ [x] :=
  ⟨rfl, Nat.le_refl _, (by show 1 <= 140737488355328; omega), fun i y hy => by
    cases i with
    | succ i => simp at hy
    | zero =>
      simp at hy; subst hy
      refine ⟨_, rfl, vs, h, fun j v hv => ?_⟩
      rw [Nat.zero_mul, add0, cl hb]
      simpa using hv⟩
def kA : ByteArray := ⟨#[65]⟩
def kT : Tbl := ⟨0, [⟨kA, 2, 5, false⟩], [⟨false, [⟨2, 0, ⟨#[]⟩⟩]⟩]⟩
def kV (n : Int) : Val := ⟨2, n, ⟨#[]⟩⟩
def kU (u : Nat) (σ : Dsk) : Dsk := setS u kA (kV ((u : Int) + 1)) (goS u 1 (modeS u 2 σ))
def kS : Nat -> Dsk
  | 0 => Dsk.new kT
  | k + 1 => kU k (kS k)
theorem k_valid : validT kT = 0 := by decide +kernel
theorem k_mode (u : Nat) (hu : u < 2) : modeC u 2 (kS u) = 0 := by
  rcases (by omega : u = 0 ∨ u = 1) with rfl | rfl <;> decide +kernel
theorem k_go (u : Nat) (hu : u < 2) : goC u 1 (modeS u 2 (kS u)) = 0 := by
  rcases (by omega : u = 0 ∨ u = 1) with rfl | rfl <;> decide +kernel
theorem k_set (u : Nat) (hu : u < 2) : setC u kA (kV ((u : Int) + 1)) (goS u 1 (modeS u 2 (kS u))) = 0 := by
  rcases (by omega : u = 0 ∨ u = 1) with rfl | rfl <;> decide +kernel
def k3 : Dsk := storeES 0 false (kS 2)
def k4 : Dsk := storeES 1 false k3
def k5 : Dsk := storeES 1 true k4
theorem k_s1 : storeE 0 false (kS 2) = 0 := by decide +kernel
theorem k_s2 : storeE 1 false k3 = 13 := by decide +kernel
theorem k_s3 : storeE 1 true k4 = 0 := by decide +kernel
theorem k_now : nowR 1 kA k5 = (kV 2, 0) := by decide +kernel
theorem in64_small {n : Int} (h1 : 0 <= n) (h2 : n <= 1000) : In64 n := ⟨by omega, by omega⟩
theorem ptr_nil (S : Nat) (x y : Operand) (w : World) : (eqS .eql 32 x y (.pointer (some ⟨S, 0, none⟩)) (.pointer none)).run Tryz.prog w = .ok (.bool false) w := eqS_ptr_nil bu32 _ _ _ w
theorem known_c (w : World) : Calls Tryz.prog 10 #[] w fun e w' => e = .returned (.bool true) /\ Pu w w' := by
  refine F10_calls w _ (alB fun w1 hp1 hb1 => (rNum_c 0 w1).mono ?_)
  rintro e w2 ⟨rfl, hp2⟩
  refine ⟨_, _, _, rfl, alB fun w3 hp3 hb3 => alB fun w4 hp4 hb4 => ?_⟩
  have hp02 := hp1.trans hp2
  have hp04 := (hp02.trans hp3).trans hp4
  have b1 := hp4.blk (hp3.blk (hp2.blk hb1))
  have b3 := hp4.blk hb3
  have rV : RdSl w4 ⟨some ⟨w2.heap.size, 0, none⟩, 1, 1⟩ [(⟨2, 0, ⟨#[]⟩⟩ : Val)] := rd_one b3 ⟨rfl, in64_small (by decide) (by decide), in64_small (by decide) (by decide)⟩
  have rF : RdSl w4 ⟨some ⟨w.heap.size, 0, none⟩, 1, 1⟩ [(⟨kA, 2, 5, false⟩ : Fld)] := rd_one b1 ⟨rfl, in64_small (by decide) (by decide), in64_small (by decide) (by decide)⟩
  have rR : RdSl w4 ⟨some ⟨w3.heap.size, 0, none⟩, 1, 1⟩ [(⟨false, [⟨2, 0, ⟨#[]⟩⟩]⟩ : Rec)] := rd_one hb4 ⟨_, rfl, rV⟩
  have rT : RdTbl w4 kT ⟨some ⟨w.heap.size, 0, none⟩, 1, 1⟩ ⟨some ⟨w3.heap.size, 0, none⟩, 1, 1⟩ := ⟨in64_small (by decide) (by decide), rF, rR⟩
  refine (new_c rT (by intro f hf; simp [kT] at hf; subst hf; show 1 <= 140737488355328; omega)).mono ?_
  rintro e w5 ⟨hp5, -, hgood⟩
  obtain ⟨d, val, rfl, hD, habs, hnew⟩ := hgood k_valid
  have hI := inv_new k_valid
  have hO : One w w5 d val (kS 0) := ⟨hp04.trans hp5, hD, habs, hI, fun b hb => Nat.le_trans hp04.size (hnew b hb)⟩
  refine ⟨some ⟨d.S, 0, none⟩, 0, rfl, ?_⟩
  show ∃ b27 : Bool, ∃ w25 : World, _ /\ _
  refine ⟨false, w5, ptr_nil _ _ _ w5, ?_⟩
  show F10_3 _ _ _ _ _
  refine loopUp 2 (fun k t w' => t = (k : Int) /\ ∃ dk valk, dk.S = d.S /\ One w w' dk valk (kS k)) ⟨rfl, d, val, rfl, hO⟩ ?_
  rintro k J t w6 hk ⟨ht, dk, valk, hS, h6⟩ hJ
  obtain rfl : t = (k : Int) := ht
  have ep : (some ⟨d.S, 0, none⟩ : Option Addr) = some ⟨dk.S, 0, none⟩ := by rw [hS]
  rw [ep]
  refine Br.of (fun d1 => ?_) (fun d1 => ?_)
  · have hk2 : k < 2 := by have := dtrue d1; omega
    refine (mode_c h6.at_ (k : Int) 2).mono ?_
    rintro e w7 ⟨rfl, d7, hL7, ha7⟩
    rw [h6.abs] at ha7 ⊢
    rw [k_mode k hk2]
    have h7 := h6.step hL7 ha7 (h6.inv.mode _ _)
    refine ⟨_, rfl, ?_⟩
    show Calls Tryz.prog 15 #[dk.ptr, _, _] w7 _
    rw [show dk.ptr = d7.ptr by unfold DLay.ptr; rw [hL7.ptr]]
    refine (go_c h7.at_ (by rw [h7.abs]; exact h7.inv) (k : Int) 1).mono ?_
    rintro e w8 ⟨rfl, d8, v8, hL8, ha8⟩
    rw [h7.abs] at ha8 ⊢
    rw [k_go k hk2]
    have h8 := h7.step hL8 ha8 (h7.inv.go _ _)
    refine ⟨_, rfl, ?_⟩
    show Calls Tryz.prog 37 _ w8 _
    rw [wrap_in (n := (k : Int) + 1) (by omega) (by omega)]
    refine (rNum_c ((k : Int) + 1) w8).mono ?_
    rintro e w9 ⟨rfl, hp9⟩
    have h9 := h8.plus hp9
    refine ⟨_, _, _, rfl, ?_⟩
    rw [show (some ⟨dk.S, 0, none⟩ : Option Addr) = some ⟨d8.S, 0, none⟩ by rw [hL8.ptr, hL7.ptr]]
    refine (set_c h9.at_ (by rw [h9.abs]; exact h9.inv) (k : Int) kA (kV ((k : Int) + 1))).mono ?_
    rintro e w10 ⟨rfl, d10, v10, hL10, ha10⟩
    rw [h9.abs] at ha10 ⊢
    rw [k_set k hk2]
    have h10 := h9.step hL10 ha10 (h9.inv.set _ _ _)
    refine ⟨_, rfl, ?_⟩
    show J _ w10
    refine hJ _ _ hk2 ⟨by omega, d10, v10, by rw [hL10.ptr, hL8.ptr, hL7.ptr, hS], h10⟩
  · have hk2 : k = 2 := by have := dfalse d1; omega
    subst hk2
    refine (Store_c h6.at_ (by rw [h6.abs]; exact h6.inv) 0 false).mono ?_
    rintro e w7 ⟨q7, rfl, -, d7, v7, hL7, ha7⟩
    rw [h6.abs] at ha7 ⊢
    rw [k_s1]
    have h7 := h6.step hL7 ha7 (h6.inv.storeE _ _)
    refine ⟨q7, _, rfl, ?_⟩
    rw [show (some ⟨dk.S, 0, none⟩ : Option Addr) = some ⟨d7.S, 0, none⟩ by rw [hL7.ptr]]
    refine (Store_c h7.at_ (by rw [h7.abs]; exact h7.inv) 1 false).mono ?_
    rintro e w8 ⟨q8, rfl, -, d8, v8, hL8, ha8⟩
    rw [h7.abs] at ha8 ⊢
    have e2 : storeE 1 false (storeES 0 false (kS 2)) = 13 := k_s2
    rw [e2]
    have h8 := h7.step hL8 ha8 (h7.inv.storeE _ _)
    refine ⟨q8, _, rfl, ?_⟩
    rw [show (some ⟨d7.S, 0, none⟩ : Option Addr) = some ⟨d8.S, 0, none⟩ by rw [hL8.ptr]]
    refine (Store_c h8.at_ (by rw [h8.abs]; exact h8.inv) 1 true).mono ?_
    rintro e w9 ⟨q9, rfl, -, d9, v9, hL9, ha9⟩
    rw [h8.abs] at ha9 ⊢
    have e3 : storeE 1 true (storeES 1 false (storeES 0 false (kS 2))) = 0 := k_s3
    rw [e3]
    have h9 := h8.step hL9 ha9 (h8.inv.storeE _ _)
    refine ⟨q9, _, rfl, ?_⟩
    rw [show (some ⟨d8.S, 0, none⟩ : Option Addr) = some ⟨d9.S, 0, none⟩ by rw [hL9.ptr]]
    refine (now_c h9.at_ (by rw [h9.abs]; exact h9.inv) 1 kA).mono ?_
    rintro e w10 ⟨rfl, hL10⟩
    rw [h9.abs]
    have e4 : nowR 1 kA (storeES 1 true (storeES 1 false (storeES 0 false (kS 2)))) = (kV 2, 0) := k_now
    rw [e4]
    have h10 := h9.step hL10 h9.abs h9.inv
    refine ⟨_, _, _, _, rfl, alB fun w11 hp11 hb11 => stA_fill hb11 bs28.symm rfl rfl fun w12 hb12 hf12 _ => ?_⟩
    have hp12 : Pu w w12 := (h10.pu.trans hp11).andNew hf12 fun i hi => by rw [show i = w10.heap.size from hi]; exact h10.pu.size
    show ∃ n88 : Int, _ /\ _
    exact ⟨2, cl hb12 1, rfl, hp12⟩
end Go.Proofs.YtcihcbfcgjepfaaGreatDoor

/- Desks: no desk; the law on the methods of no desk. No condition but those stated. -/
set_option maxRecDepth 100000
set_option linter.unusedVariables false
set_option linter.unusedSimpArgs false
namespace Go.Proofs.YtcihcbfcgjepfaaGreatDoor
open Go.Sh Go.RowKit
variable {w w' : World}
def nilD : Deferred := { target := .fn (.func 102) #[], args := #[] }
theorem enterNil_c (u : Int) (w : World) : Calls Tryz.prog 47 #[.pointer none, .int .i64 u] w fun e w' => e = .returned (.tuple #[.pointer none, .func (.func 102) #[] #[], .int .i64 9]) /\ w' = w :=
  F47_calls none u w _ ⟨true, w, eqS_ptr_nil bu32 _ _ none w, rfl, rfl⟩
theorem leaveNil {K : World -> Prop} (h : K w) : runD Tryz.prog [nilD] w K := by
  show dcall Tryz.prog nilD w _
  show CallsD Tryz.prog 102 #[] .returning w _
  refine CallsD.mono (F102_callsD w (fun e w' => e = .returned (.tuple #[]) /\ w' = w) .returning ⟨rfl, rfl⟩) ?_
  rintro e u' w' ⟨rfl, rfl, rfl⟩
  exact ⟨⟨_, rfl⟩, rfl, h⟩
theorem modeNil (u m : Int) (w : World) : Calls Tryz.prog 14 #[.pointer none, .int .i64 u, .int .i64 m] w fun e w' => e = .returned (.int .i64 9) /\ Pu w w' := by
  refine F14_calls _ u m w _ (Calls.mono (enterNil_c u w) ?_)
  rintro e w1 ⟨rfl, rfl⟩
  exact ⟨_, _, _, rfl, leaveNil ⟨rfl, Pu.refl _⟩⟩
theorem appendNil (u : Int) (w : World) : Calls Tryz.prog 28 #[.pointer none, .int .i64 u] w fun e w' => e = .returned (.tuple #[.int .i64 0, .int .i64 9]) /\ Pu w w' := by
  refine F28_calls _ u w _ (Calls.mono (enterNil_c u w) ?_)
  rintro e w1 ⟨rfl, rfl⟩
  exact ⟨_, _, _, rfl, leaveNil ⟨rfl, Pu.refl _⟩⟩
theorem getNil (u k : Int) (s : ByteArray) (w : World) : Calls Tryz.prog 29 #[.pointer none, .int .i64 u, .int .i64 k, .string s] w fun e w' => e = .returned (.tuple #[valA noV, .int .i64 9]) /\ Pu w w' := by
  refine F29_calls _ u k s w _ (alB fun w1 hp1 hb1 => Calls.mono (enterNil_c u w1) ?_)
  rintro e w2 ⟨rfl, rfl⟩
  refine ⟨_, _, _, rfl, ?_⟩
  refine stA_fill hb1 bs28.symm rfl rfl fun w3 hb3 hf3 _ => leaveNil ⟨_, cl hb3 0, _, cl hb3 1, _, cl hb3 2, rfl, hp1.andNew hf3 fun i hi => by rw [show i = w.heap.size from hi]; exact Nat.le_refl _⟩
theorem storeNil (u : Int) (f : Bool) (w : World) : Calls Tryz.prog 17 #[.pointer none, .int .i64 u, .bool f] w fun e w' => e = .returned (.tuple #[.slice none 0 0, .int .i64 9]) /\ Pu w w' := by
  refine F17_calls _ u f w _ (Calls.mono (enterNil_c u w) ?_)
  rintro e w1 ⟨rfl, rfl⟩
  exact ⟨_, _, _, rfl, leaveNil ⟨rfl, Pu.refl _⟩⟩
theorem lockedNil (k : Int) (w : World) : Calls Tryz.prog 30 #[.pointer none, .int .i64 k] w fun e w' => e = .returned (.tuple #[.int .i64 0, .bool false, .int .i64 9]) /\ Pu w w' := by
  refine F30_calls _ k w _ (Calls.mono (enterNil_c 0 w) ?_)
  rintro e w1 ⟨rfl, rfl⟩
  exact ⟨_, _, _, rfl, leaveNil ⟨rfl, Pu.refl _⟩⟩
theorem tableNil (w : World) : Calls Tryz.prog 24 #[.pointer none] w fun e w' => e = .returned (.agg #[.int .i64 0, .slice none 0 0, .slice none 0 0]) /\ Pu w w' := by
  refine F24_calls _ w _ (alB fun w1 hp1 hb1 => Calls.mono (enterNil_c 0 w1) ?_)
  rintro e w2 ⟨rfl, rfl⟩
  refine ⟨_, _, _, rfl, ?_⟩
  refine stA_fill hb1 bs25.symm rfl rfl fun w3 hb3 hf3 _ => leaveNil ⟨_, cl hb3 0, ⟨none, 0, 0⟩, cl hb3 1, ⟨none, 0, 0⟩, cl hb3 2, rfl, hp1.andNew hf3 fun i hi => by rw [show i = w.heap.size from hi]; exact Nat.le_refl _⟩
theorem fallNil (u : Int) (w : World) : Calls Tryz.prog 31 #[.pointer none, .int .i64 u] w fun e w' => e = .returned (.int .i64 9) /\ Pu w w' := by
  refine F31_calls _ u w _ (Calls.mono (enterNil_c u w) ?_)
  rintro e w1 ⟨rfl, rfl⟩
  exact ⟨_, _, _, rfl, leaveNil ⟨rfl, Pu.refl _⟩⟩
theorem copyNil (w : World) : Calls Tryz.prog 33 #[.pointer none] w fun e w' => e = .returned (.pointer none) /\ Pu w w' :=
  F33_calls none w _ ⟨true, w, eqS_ptr_nil bu32 _ _ none w, rfl, Pu.refl _⟩
theorem sameNil (w : World) : Calls Tryz.prog 32 #[.pointer none, .pointer none] w fun e w' => e = .returned (.bool true) /\ Pu w w' :=
  F32_calls none none w _ ⟨true, w, eqS_ptr_nil bu32 _ _ none w, true, w, eqS_ptr_nil bu32 _ _ none w, rfl, Pu.refl _⟩
theorem bufNils_c (u k : Int) (field : ByteArray) (w : World) : Calls Tryz.prog 7 #[.int .i64 u, .int .i64 k, .string field] w fun e w' => e = .returned (.bool true) /\ Pu w w' := by
  refine F7_calls u k field w _ ((appendNil u w).mono ?_)
  rintro e w1 ⟨rfl, hp1⟩
  refine ⟨_, _, rfl, (getNil u k field w1).mono ?_⟩
  rintro e w2 ⟨rfl, hp2⟩
  refine ⟨_, _, _, _, rfl, alB fun w3 hp3 hb3 => stA_fill hb3 bs28.symm rfl rfl fun w4 hb4 hf4 _ => (storeNil u true w4).mono ?_⟩
  have hp24 : Pu w2 w4 := hp3.andNew hf4 fun i hi => by rw [show i = w2.heap.size from hi]; exact Nat.le_refl _
  rintro e w5 ⟨rfl, hp5⟩
  refine ⟨⟨none, 0, 0⟩, _, rfl, (lockedNil k w5).mono ?_⟩
  rintro e w6 ⟨rfl, hp6⟩
  refine ⟨_, _, _, rfl, (tableNil w6).mono ?_⟩
  rintro e w7 ⟨rfl, hp7⟩
  refine ⟨_, ⟨none, 0, 0⟩, ⟨none, 0, 0⟩, rfl, alB fun w8 hp8 hb8 => stA_fill hb8 bs25.symm rfl rfl fun w9 hb9 hf9 _ => ?_⟩
  have hp79 : Pu w7 w9 := hp8.andNew hf9 fun i hi => by rw [show i = w7.heap.size from hi]; exact Nat.le_refl _
  have hp09 := (((hp1.trans hp2).trans hp24).trans hp5).trans (hp6.trans (hp7.trans hp79))
  show Calls Tryz.prog 14 _ w9 _
  refine (modeNil u k w9).mono ?_
  rintro e w10 ⟨rfl, hp10⟩
  refine ⟨_, rfl, ?_⟩
  show Calls Tryz.prog 31 _ w10 _
  refine (fallNil u w10).mono ?_
  rintro e w11 ⟨rfl, hp11⟩
  refine ⟨_, rfl, ?_⟩
  show ∃ l76 : SV, _ /\ _
  refine ⟨⟨none, 0, 0⟩, cl ((hp10.trans hp11).blk hb9) 1, ?_⟩
  show Calls Tryz.prog 33 _ w11 _
  refine (copyNil w11).mono ?_
  rintro e w12 ⟨rfl, hp12⟩
  refine ⟨_, rfl, (sameNil w12).mono ?_⟩
  rintro e w13 ⟨rfl, hp13⟩
  refine ⟨_, rfl, ?_⟩
  show Calls Tryz.prog 10 _ w13 _
  refine (known_c w13).mono ?_
  rintro e w14 ⟨rfl, hp14⟩
  exact ⟨_, rfl, rfl, (((hp09.trans hp10).trans hp11).trans hp12).trans (hp13.trans hp14)⟩
theorem bufNils_row_c (w : World) (u : Int) (_ : Lim.ok u) (k : Int) (_ : Lim.ok k) (field : ByteArray) (_ : Lim.ok field) : Calls Tryz.prog 7 #[.int .i64 u, .int .i64 k, .string field] w fun e w' => e = .returned (.bool true) /\ Pu w w' := bufNils_c u k field w
end Go.Proofs.YtcihcbfcgjepfaaGreatDoor
