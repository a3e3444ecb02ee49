import Derived.Test.YtcihcbfcgjepfaaGreatDoorBfOwB
import Derived.Test.YtcihcbfcgjepfaaGreatDoorBfPrA
import Derived.Test.YtcihcbfcgjepfaaGreatDoorShFourteen
import Derived.Test.YtcihcbfcgjepfaaGreatDoorShTwentyOne
import Derived.Test.YtcihcbfcgjepfaaGreatDoorShTwentyFive
import Derived.Laws.LoneSync
import Derived.Test.YtcihcbfcgjepfaaGreatDoorShTwentyTwo
/- Desks: what holds of a desk holds behind Set, Mark, Revert, Fall. No condition but those stated. -/
set_option linter.unusedVariables false
set_option linter.unusedSimpArgs false
namespace Go.Proofs.YtcihcbfcgjepfaaGreatDoor
open Go.Sh Go.RowKit
variable {σ : Dsk} {u : Nat}
theorem mem_put {κ ν : Type} [DecidableEq κ] : ∀ {l : List (κ × ν)} {k : κ} {v : ν} {p : κ × ν}, p ∈ AL.put l k v -> p ∈ l ∨ p = (k, v)
  | [], k, v, p, h => by simp [AL.put] at h; exact .inr h
  | (a, b) :: l, k, v, p, h => by
    simp only [AL.put] at h
    by_cases e : a = k
    · rw [if_pos e] at h
      rcases List.mem_cons.1 h with h | h
      · right; rw [h, e]
      · exact .inl (List.mem_cons_of_mem _ h)
    · rw [if_neg e] at h
      rcases List.mem_cons.1 h with h | h
      · left; rw [h]; exact List.mem_cons_self ..
      · rcases mem_put h with h | h
        · exact .inl (List.mem_cons_of_mem _ h)
        · exact .inr h
theorem mem_modify {α : Type} {f : α -> α} : ∀ {l : List α} {i : Nat} {x : α}, x ∈ l.modify i f -> x ∈ l ∨ ∃ y ∈ l, x = f y
  | [], i, x, h => by simp at h
  | y :: l, 0, x, h => by
    rw [List.modify_zero_cons] at h
    rcases List.mem_cons.1 h with h | h
    · exact .inr ⟨y, List.mem_cons_self .., h⟩
    · exact .inl (List.mem_cons_of_mem _ h)
  | y :: l, i + 1, x, h => by
    rw [List.modify_succ_cons] at h
    rcases List.mem_cons.1 h with h | h
    · left; rw [h]; exact List.mem_cons_self ..
    · rcases mem_modify h with h | ⟨z, hz, h⟩
      · exact .inl (List.mem_cons_of_mem _ h)
      · exact .inr ⟨z, List.mem_cons_of_mem _ hz, h⟩
theorem put_same_u (recs : List Rec) (lk : Int -> Option Int) : σ.put u recs (σ.us u) lk = { σ with recs := recs, lk := lk } := by
  simp only [Dsk.put, Dsk.setU, Dsk.mk.injEq, true_and, and_true]
  funext v
  by_cases e : v = u
  · rw [if_pos e, e]
  · rw [if_neg e]
theorem recK_right (h : Inv σ) {k : Int} (h1 : 1 <= k) (h2 : k <= σ.recs.length) : validR σ.flds σ.page (recK σ k) = 0 := by
  obtain ⟨r, hr⟩ := at_k (l := σ.recs) (k := (k - 1).toNat) (by omega)
  have : recK σ k = r := by unfold recK; rw [List.getD_eq_getElem?_getD, hr]; rfl
  rw [this]; exact h.gr r (List.mem_of_getElem? hr)
theorem Inv.alter (h : Inv σ) (hu : u < 4) (h0 : (σ.us u).at_ ≠ 0) {f : Rec -> Rec} (hf : ∀ r, validR σ.flds σ.page r = 0 -> validR σ.flds σ.page (f r) = 0) : Inv (alterS u f σ) := by
  have hat := h.at_ u hu
  simp only [alterS]
  by_cases c1 : (σ.us u).at_ < 0
  · rw [if_pos c1, setU_put]
    refine h.chg hu h.gr (Nat.le_refl _) (fun r hr => ?_) (h.gc u hu) (h.cn u hu) ⟨hat.1, by simpa using hat.2⟩ (fun h1 h2 => ?_) (.inl (by simp)) h.lr
    · rcases mem_modify hr with hr | ⟨y, hy, rfl⟩
      · exact h.ga u hu r hr
      · exact hf y (h.ga u hu y hy)
    · have hne : (σ.us u).ap ≠ [] := fun e => h2 (by simp [e])
      have := h.rw_ u hu h1 hne
      exact ⟨by simpa using this.1, this.2⟩
  rw [if_neg c1]
  by_cases c2 : (σ.us u).mode = 0
  · rw [if_pos c2]
    have e := put_same_u (σ := σ) (u := u) (σ.recs.modify ((σ.us u).at_ - 1).toNat f) σ.lk
    rw [show ({ σ with recs := σ.recs.modify ((σ.us u).at_ - 1).toNat f } : Dsk) = { σ with recs := σ.recs.modify ((σ.us u).at_ - 1).toNat f, lk := σ.lk } from rfl, ← e]
    refine h.chg hu (fun r hr => ?_) (by simp) (h.ga u hu) (by simpa using h.gc u hu) (h.cn u hu) (by simpa using hat) (h.rw_ u hu) (.inl (by simp)) (by simpa using h.lr)
    rcases mem_modify hr with hr | ⟨y, hy, rfl⟩
    · exact h.gr r hr
    · exact hf y (h.gr y hy)
  · rw [if_neg c2]
    have hk1 : 1 <= (σ.us u).at_ := by omega
    have hL : ∃ lk', lockS u σ = { σ with lk := lk' } /\ ∀ k v, lk' k = some v -> 1 <= k /\ k <= σ.recs.length /\ 0 <= v /\ v < 4 := by
      simp only [lockS]
      split
      · exact ⟨σ.lk, rfl, h.lr⟩
      · refine ⟨_, rfl, fun k v hk => ?_⟩
        split at hk
        · next e => cases hk; omega
        · exact h.lr k v hk
    obtain ⟨lk', eL, hl⟩ := hL
    rw [eL]
    have e : ({ σ with lk := lk' } : Dsk).setU u { σ.us u with ch := AL.put (σ.us u).ch (σ.us u).at_ (((AL.get (σ.us u).ch (σ.us u).at_).getD (recK σ (σ.us u).at_, recK σ (σ.us u).at_)).1, f ((AL.get (σ.us u).ch (σ.us u).at_).getD (recK σ (σ.us u).at_, recK σ (σ.us u).at_)).2) }
      = σ.put u σ.recs { σ.us u with ch := AL.put (σ.us u).ch (σ.us u).at_ (((AL.get (σ.us u).ch (σ.us u).at_).getD (recK σ (σ.us u).at_, recK σ (σ.us u).at_)).1, f ((AL.get (σ.us u).ch (σ.us u).at_).getD (recK σ (σ.us u).at_, recK σ (σ.us u).at_)).2) } lk' := rfl
    rw [e]
    have hg : validR σ.flds σ.page ((AL.get (σ.us u).ch (σ.us u).at_).getD (recK σ (σ.us u).at_, recK σ (σ.us u).at_)).1 = 0 /\ validR σ.flds σ.page ((AL.get (σ.us u).ch (σ.us u).at_).getD (recK σ (σ.us u).at_, recK σ (σ.us u).at_)).2 = 0 := by
      have hr := recK_right h hk1 hat.1
      cases hg : AL.get (σ.us u).ch (σ.us u).at_ with
      | none => exact ⟨hr, hr⟩
      | some c => exact (h.gc u hu _ (AL.get_mem hg)).1
    refine h.chg hu h.gr (Nat.le_refl _) (h.ga u hu) (fun c hc => ?_) (AL.nodup_put (h.cn u hu) _ _) hat (h.rw_ u hu) (.inl (Nat.le_refl _)) hl
    rcases mem_put hc with hc | rfl
    · exact h.gc u hu c hc
    · exact ⟨⟨hg.1, hf _ hg.2⟩, hk1, hat.1⟩
theorem Inv.set (h : Inv σ) (v : Int) (field : ByteArray) (x : Val) : Inv (setS v field x σ) := by
  unfold setS
  split
  · next hc =>
    unfold setC at hc
    split at hc
    · cases hc
    · next hv =>
      have hv : isU v = true := by simpa using hv
      have hu : v.toNat < 4 := by simp [isU] at hv; omega
      split at hc
      · cases hc
      · next h0 =>
        cases hi : idxN σ.flds field with
        | none => exact h
        | some i =>
          rw [hi] at hc
          simp only at hc ⊢
          split at hc
          · next hne => exact absurd hc hne
          · next he =>
            have he : (fitS (σ.flds.getD i default) σ.page x).2 = 0 := by simpa using he
            refine h.alter hu h0 fun r hr => set_right hr fun f hf => ?_
            rw [List.getD_eq_getElem?_getD, hf]
            rw [List.getD_eq_getElem?_getD, hf] at he
            exact fit_fits he
  · exact h
theorem Inv.mark (h : Inv σ) (v : Int) (g : Bool) : Inv (markS v g σ) := by
  unfold markS
  split
  · next hc =>
    unfold markC at hc
    split at hc
    · cases hc
    · next hv =>
      have hv : isU v = true := by simpa using hv
      have hu : v.toNat < 4 := by simp [isU] at hv; omega
      split at hc
      · cases hc
      · next h0 => exact h.alter hu h0 fun r hr => mark_right hr g
  · exact h
end Go.Proofs.YtcihcbfcgjepfaaGreatDoor

/- Desks: two users who change different fields of a record: both changes are kept. In plain words. No condition but those stated. -/
set_option linter.unusedVariables false
set_option linter.unusedSimpArgs false
namespace Go.Proofs.YtcihcbfcgjepfaaGreatDoor
open Go.Sh Go.RowKit
def tw (t : Tbl) (recs : List Rec) (x0 x1 : Usr) : Dsk := ⟨t.page, t.fields, recs, fun u => if u = 0 then x0 else if u = 1 then x1 else Usr.new, fun _ => none⟩
theorem tw_new (t : Tbl) : Dsk.new t = tw t t.recs Usr.new Usr.new := by
  simp only [Dsk.new, tw, Dsk.mk.injEq, true_and, and_true]
  funext u
  split
  · rfl
  · split <;> rfl
variable {t : Tbl} {recs : List Rec} {x0 x1 y : Usr}
theorem tw_set0 : (tw t recs x0 x1).setU 0 y = tw t recs y x1 := by
  simp only [tw, Dsk.setU, Dsk.mk.injEq, true_and, and_true]
  funext u; by_cases e : u = 0 <;> simp [e]
theorem tw_set1 : (tw t recs x0 x1).setU 1 y = tw t recs x0 y := by
  simp only [tw, Dsk.setU, Dsk.mk.injEq, true_and, and_true]
  funext u; by_cases e : u = 1 <;> simp [e]
def k2 (t : Tbl) (k : Int) (c0 c1 : List (Int × (Rec × Rec))) (recs : List Rec) : Dsk := tw t recs ⟨2, k, c0, []⟩ ⟨4, k, c1, []⟩
theorem two_mode0 : modeC 0 2 (Dsk.new t) = 0 /\ modeS 0 2 (Dsk.new t) = tw t t.recs ⟨2, 0, [], []⟩ Usr.new := by
  have h : modeC 0 2 (Dsk.new t) = 0 := by rw [tw_new]; rfl
  refine ⟨h, ?_⟩
  rw [modeS, if_pos h, tw_new]
  exact tw_set0
theorem two_mode1 : modeC 1 4 (tw t recs ⟨2, 0, [], []⟩ Usr.new) = 0 /\ modeS 1 4 (tw t recs ⟨2, 0, [], []⟩ Usr.new) = tw t recs ⟨2, 0, [], []⟩ ⟨4, 0, [], []⟩ := by
  have h : modeC 1 4 (tw t recs ⟨2, 0, [], []⟩ Usr.new) = 0 := rfl
  refine ⟨h, ?_⟩
  rw [modeS, if_pos h]
  exact tw_set1
theorem seen_tw {u : Nat} {k : Int} (h1 : 1 <= k) (h2 : k <= recs.length) {σ : Dsk} (hr : σ.recs = recs) : seenR σ u k ≠ none := by
  unfold seenR
  rw [hr, if_neg (by omega), if_neg (by omega)]
  split
  · simp
  · rw [List.getElem?_eq_getElem (by omega)]; simp
theorem two_go0 {k : Int} (h1 : 1 <= k) (h2 : k <= recs.length) : goC 0 k (tw t recs ⟨2, 0, [], []⟩ ⟨4, 0, [], []⟩) = 0 /\ goS 0 k (tw t recs ⟨2, 0, [], []⟩ ⟨4, 0, [], []⟩) = tw t recs ⟨2, k, [], []⟩ ⟨4, 0, [], []⟩ := by
  have h : goC 0 k (tw t recs ⟨2, 0, [], []⟩ ⟨4, 0, [], []⟩) = 0 := by
    unfold goC
    rw [if_neg (by decide), if_neg (seen_tw h1 h2 rfl), if_neg (by show ¬ k = 0; omega)]
    rfl
  refine ⟨h, ?_⟩
  unfold goS
  rw [if_neg (by rw [h]; simp)]
  simp only
  rw [if_neg (by show ¬ k = 0; omega)]
  exact tw_set0
theorem two_go1 {k : Int} (h1 : 1 <= k) (h2 : k <= recs.length) : goC 1 k (tw t recs ⟨2, k, [], []⟩ ⟨4, 0, [], []⟩) = 0 /\ goS 1 k (tw t recs ⟨2, k, [], []⟩ ⟨4, 0, [], []⟩) = k2 t k [] [] recs := by
  have h : goC 1 k (tw t recs ⟨2, k, [], []⟩ ⟨4, 0, [], []⟩) = 0 := by
    unfold goC
    rw [if_neg (by decide), if_neg (seen_tw h1 h2 rfl), if_neg (by show ¬ k = 0; omega)]
    rfl
  refine ⟨h, ?_⟩
  unfold goS
  rw [if_neg (by rw [h]; simp)]
  simp only
  rw [if_neg (by show ¬ k = 0; omega)]
  exact tw_set1
def c2 (k : Int) (r : Rec) (i : Nat) (x : Val × Int) : List (Int × (Rec × Rec)) := if x.2 = 0 then [(k, (r, setVal i x.1 r))] else []
theorem two_set0 {k : Int} (h1 : 1 <= k) {nm : ByteArray} {i : Nat} (hi : idxN t.fields nm = some i) (v : Val) {c1 : List (Int × (Rec × Rec))} :
    setC 0 nm v (k2 t k [] c1 recs) = (fitS (t.fields.getD i default) t.page v).2 /\ setS 0 nm v (k2 t k [] c1 recs) = k2 t k (c2 k (recs.getD (k - 1).toNat default) i (fitS (t.fields.getD i default) t.page v)) c1 recs := by
  have e : setC 0 nm v (k2 t k [] c1 recs) = if (fitS (t.fields.getD i default) t.page v).2 ≠ 0 then (fitS (t.fields.getD i default) t.page v).2 else 0 := by
    unfold setC
    rw [if_neg (by decide), if_neg (by show ¬ k = 0; omega)]
    show (match idxN t.fields nm with | none => 4 | some i => if (fitS (t.fields.getD i default) t.page v).2 ≠ 0 then (fitS (t.fields.getD i default) t.page v).2 else lockC (0 : Int).toNat (k2 t k [] c1 recs)) = _
    rw [hi]; rfl
  have e1 : setC 0 nm v (k2 t k [] c1 recs) = (fitS (t.fields.getD i default) t.page v).2 := by
    rw [e]; split
    · rfl
    · next h => exact (Decidable.not_not.1 h).symm
  refine ⟨e1, ?_⟩
  unfold setS
  rw [e1]
  by_cases hf : (fitS (t.fields.getD i default) t.page v).2 = 0
  · rw [if_pos hf]
    show (match idxN t.fields nm with | none => k2 t k [] c1 recs | some i => alterS (0 : Int).toNat (setVal i (fitS (t.fields.getD i default) t.page v).1) (k2 t k [] c1 recs)) = _
    rw [hi]
    simp only [alterS]
    show (if k < 0 then _ else if (2 : Int) = 0 then _ else _) = _
    rw [if_neg (by omega), if_neg (by decide), c2, if_pos hf]
    exact tw_set0
  · rw [if_neg hf, c2, if_neg hf]
theorem two_set1 {k : Int} (h1 : 1 <= k) {nm : ByteArray} {i : Nat} (hi : idxN t.fields nm = some i) (v : Val) {c0 : List (Int × (Rec × Rec))} :
    setC 1 nm v (k2 t k c0 [] recs) = (fitS (t.fields.getD i default) t.page v).2 /\ setS 1 nm v (k2 t k c0 [] recs) = k2 t k c0 (c2 k (recs.getD (k - 1).toNat default) i (fitS (t.fields.getD i default) t.page v)) recs := by
  have e : setC 1 nm v (k2 t k c0 [] recs) = if (fitS (t.fields.getD i default) t.page v).2 ≠ 0 then (fitS (t.fields.getD i default) t.page v).2 else 0 := by
    unfold setC
    rw [if_neg (by decide), if_neg (by show ¬ k = 0; omega)]
    show (match idxN t.fields nm with | none => 4 | some i => if (fitS (t.fields.getD i default) t.page v).2 ≠ 0 then (fitS (t.fields.getD i default) t.page v).2 else lockC (1 : Int).toNat (k2 t k c0 [] recs)) = _
    rw [hi]; rfl
  have e1 : setC 1 nm v (k2 t k c0 [] recs) = (fitS (t.fields.getD i default) t.page v).2 := by
    rw [e]; split
    · rfl
    · next h => exact (Decidable.not_not.1 h).symm
  refine ⟨e1, ?_⟩
  unfold setS
  rw [e1]
  by_cases hf : (fitS (t.fields.getD i default) t.page v).2 = 0
  · rw [if_pos hf]
    show (match idxN t.fields nm with | none => k2 t k c0 [] recs | some i => alterS (1 : Int).toNat (setVal i (fitS (t.fields.getD i default) t.page v).1) (k2 t k c0 [] recs)) = _
    rw [hi]
    simp only [alterS]
    show (if k < 0 then _ else if (4 : Int) = 0 then _ else _) = _
    rw [if_neg (by omega), if_neg (by decide), c2, if_pos hf]
    exact tw_set1
  · rw [if_neg hf, c2, if_neg hf]
theorem clashL_no : ∀ {a b c : List Val}, (∀ (m : Nat) (x y z : Val), a[m]? = some x -> b[m]? = some y -> c[m]? = some z -> x = y ∨ z = x) -> clashL a b c = false
  | [], b, c, _ => by cases b <;> cases c <;> rfl
  | x :: a, [], c, _ => by cases c <;> rfl
  | x :: a, y :: b, [], _ => rfl
  | x :: a, y :: b, z :: c, h => by
    simp only [clashL, Bool.or_eq_false_iff]
    refine ⟨?_, clashL_no fun m p q r h1 h2 h3 => h (m + 1) p q r (by simpa using h1) (by simpa using h2) (by simpa using h3)⟩
    rcases h 0 x y z rfl rfl rfl with e | e
    · simp [clashV, e]
    · simp [clashV, e]
theorem mix_at : ∀ {a b c : List Val} {m : Nat} {x y z : Val}, a[m]? = some x -> b[m]? = some y -> c[m]? = some z -> (mixV a b c)[m]? = some (if x = y then z else y)
  | [], b, c, m, x, y, z, h, _, _ => by simp at h
  | _ :: a, [], c, m, x, y, z, _, h, _ => by simp at h
  | _ :: a, _ :: b, [], m, x, y, z, _, _, h => by simp at h
  | p :: a, q :: b, r :: c, 0, x, y, z, h1, h2, h3 => by
    simp at h1 h2 h3; subst h1; subst h2; subst h3
    simp [mixV]
  | p :: a, q :: b, r :: c, m + 1, x, y, z, h1, h2, h3 => by
    simp only [mixV, List.getElem?_cons_succ]
    exact mix_at (by simpa using h1) (by simpa using h2) (by simpa using h3)
def r2 (r0 : Rec) (i : Nat) (x : Val × Int) (r : Rec) : Rec := if x.2 = 0 then applyC (r0, setVal i x.1 r0) r else r
theorem apply_c2 {k : Int} (h1 : 1 <= k) {r0 : Rec} {i : Nat} {x : Val × Int} : applyAll (c2 k r0 i x) recs = recs.modify (k - 1).toNat (r2 r0 i x) := by
  refine List.ext_getElem? fun j => ?_
  unfold applyAll
  rw [List.getElem?_mapIdx, List.getElem?_modify]
  cases recs[j]? with
  | none => rfl
  | some r =>
    simp only [Option.map_some, Option.map_eq_map, Option.some.injEq]
    unfold c2 r2
    by_cases hx : x.2 = 0
    · rw [if_pos hx, if_pos hx]
      simp only [AL.get]
      by_cases e : (k - 1).toNat = j
      · rw [if_pos e, if_pos (by omega)]
      · rw [if_neg e, if_neg (by omega)]
    · rw [if_neg hx, if_neg hx]
      simp [AL.get]
theorem busy_none {u : Nat} {σ : Dsk} (h : σ.lk = fun _ => none) : busyB σ u = false := by
  unfold busyB
  rw [h, List.any_eq_false]
  intro c _; simp
theorem clash_c2 {u : Nat} {σ : Dsk} {k : Int} {r0 : Rec} {i : Nat} {x : Val × Int} (hc : (σ.us u).ch = c2 k r0 i x) (hr : ∀ z, (recK σ k).v[i]? = some z -> r0.v[i]? = some z) : clashK σ u = [] := by
  unfold clashK
  rw [hc, List.filter_eq_nil_iff]
  intro j _
  unfold c2
  by_cases hx : x.2 = 0
  · rw [if_pos hx]
    simp only [AL.get]
    by_cases e : k = (j : Int) + 1
    · rw [if_pos e, ← e]
      show ¬ (clashB _ _ _ || clashL r0.v (r0.v.set i x.1) (recK σ k).v) = true
      rw [clashB_false, Bool.false_or, clashL_no]
      · simp
      · intro m p q s h1 h2 h3
        by_cases em : i = m
        · subst em
          right
          have := hr s h3
          rw [h1] at this; exact (Option.some.inj this).symm
        · left
          rw [List.getElem?_set_ne em, h1] at h2
          exact Option.some.inj h2
    · rw [if_neg e]; simp
  · rw [if_neg hx]; simp [AL.get]
theorem two_store1 {k : Int} (h1 : 1 <= k) {c0 : List (Int × (Rec × Rec))} {i : Nat} {x : Val × Int} :
    storeE 1 false (k2 t k c0 (c2 k (recs.getD (k - 1).toNat default) i x) recs) = 0 /\ storeES 1 false (k2 t k c0 (c2 k (recs.getD (k - 1).toNat default) i x) recs) = k2 t k c0 [] (recs.modify (k - 1).toNat (r2 (recs.getD (k - 1).toNat default) i x)) := by
  generalize hr0 : recs.getD (k - 1).toNat default = r0
  have hC : storeC 1 false (k2 t k c0 (c2 k r0 i x) recs) = 0 := by
    unfold storeC
    rw [clash_c2 (k := k) (r0 := r0) (i := i) (x := x) rfl (fun z hz => by
      have : recK (k2 t k c0 (c2 k r0 i x) recs) k = r0 := hr0
      rw [this] at hz; exact hz), busy_none rfl]
    simp
  have hE : storeE 1 false (k2 t k c0 (c2 k r0 i x) recs) = 0 := by
    unfold storeE; rw [if_pos (by decide)]; exact hC
  refine ⟨hE, ?_⟩
  unfold storeES storeS
  rw [if_pos (by decide)]
  show (if storeC 1 false _ = 0 then storedS 1 _ else _) = _
  rw [if_pos hC]
  simp only [storedS, cleanS]
  have ea : applyAll ((k2 t k c0 (c2 k r0 i x) recs).us 1).ch (k2 t k c0 (c2 k r0 i x) recs).recs = recs.modify (k - 1).toNat (r2 r0 i x) := apply_c2 h1
  rw [ea]
  have eat : ((k2 t k c0 (c2 k r0 i x) recs).us 1).at_ = k := rfl
  rw [eat, if_neg (by omega)]
  simp only [k2, tw, Dsk.setU, Dsk.mk.injEq]
  refine ⟨by simp, by simp, by simp, ?_, ?_⟩
  · funext u
    by_cases e : u = 1
    · subst e; simp
    · by_cases e0 : u = 0
      · subst e0; simp
      · simp [e, e0]
  · funext k'; simp
theorem two_store0 {k : Int} (h1 : 1 <= k) {r0 : Rec} {i : Nat} {x : Val × Int} (hr : ∀ z, (recs.getD (k - 1).toNat default).v[i]? = some z -> r0.v[i]? = some z) :
    storeE 0 false (k2 t k (c2 k r0 i x) [] recs) = 0 /\ storeES 0 false (k2 t k (c2 k r0 i x) [] recs) = k2 t k [] [] (recs.modify (k - 1).toNat (r2 r0 i x)) := by
  have hC : storeC 0 false (k2 t k (c2 k r0 i x) [] recs) = 0 := by
    unfold storeC
    rw [clash_c2 (σ := k2 t k (c2 k r0 i x) [] recs) (u := 0) (k := k) (r0 := r0) (i := i) (x := x) rfl (fun z hz => hr z hz), busy_none rfl]
    simp
  have hE : storeE 0 false (k2 t k (c2 k r0 i x) [] recs) = 0 := by
    unfold storeE; rw [if_pos (by decide)]; exact hC
  refine ⟨hE, ?_⟩
  unfold storeES storeS
  rw [if_pos (by decide)]
  show (if storeC 0 false _ = 0 then storedS 0 _ else _) = _
  rw [if_pos hC]
  simp only [storedS, cleanS]
  have ea : applyAll ((k2 t k (c2 k r0 i x) [] recs).us 0).ch (k2 t k (c2 k r0 i x) [] recs).recs = recs.modify (k - 1).toNat (r2 r0 i x) := apply_c2 h1
  rw [ea]
  have eat : ((k2 t k (c2 k r0 i x) [] recs).us 0).at_ = k := rfl
  rw [eat, if_neg (by omega)]
  simp only [k2, tw, Dsk.setU, Dsk.mk.injEq]
  refine ⟨by simp, by simp, by simp, ?_, ?_⟩
  · funext u
    by_cases e : u = 0
    · subst e; simp
    · simp [e]
  · funext k'; simp
theorem r2_at {r0 r : Rec} {i m : Nat} {x : Val × Int} {p z : Val} (h0 : r0.v[m]? = some p) (hz : r.v[m]? = some z) : (r2 r0 i x r).v[m]? = some (if x.2 = 0 /\ i = m then (if p = x.1 then z else x.1) else z) := by
  unfold r2
  by_cases hx : x.2 = 0
  · rw [if_pos hx]
    show (mixV r0.v (r0.v.set i x.1) r.v)[m]? = _
    by_cases e : i = m
    · subst e
      have hi : i < r0.v.length := (List.getElem?_eq_some_iff.1 h0).1
      rw [mix_at h0 (List.getElem?_set_self hi) hz]
      simp [hx]
    · rw [mix_at h0 (by rw [List.getElem?_set_ne e]; exact h0) hz, if_pos rfl, if_neg (fun h => e h.2)]
  · rw [if_neg hx, if_neg (fun h => hx h.1)]; exact hz
end Go.Proofs.YtcihcbfcgjepfaaGreatDoor

/- Desks: how records lie in memory by handles: what both sides share. No condition. -/
set_option linter.unusedVariables false
set_option linter.unusedSimpArgs false
namespace Go.Proofs.YtcihcbfcgjepfaaGreatDoor
open Go.Sh Go.RowKit
structure HRec where
  g : Bool
  s : SV
instance : Inhabited HRec := ⟨false, ⟨none, 0, 0⟩⟩
def hv (val : Nat -> List Val) (h : HRec) : List Val := match h.s.a with
  | some a => val a.block
  | none => []
def toR (val : Nat -> List Val) (h : HRec) : Rec := ⟨h.g, hv val h⟩
abbrev recC (h : HRec) : List Value := [.bool h.g, .slice h.s.a h.s.len h.s.cap]
theorem recC_len (h : HRec) : (recC h).length = 2 := rfl
abbrev chV (c : HRec × HRec) : Value := .agg #[.bool c.1.g, .slice c.1.s.a c.1.s.len c.1.s.cap, .bool c.2.g, .slice c.2.s.a c.2.s.len c.2.s.cap]
abbrev chC (c : Int × (HRec × HRec)) : List Value := [.int .i64 c.1, .bool c.2.1.g, .slice c.2.1.s.a c.2.1.s.len c.2.1.s.cap, .bool c.2.2.g, .slice c.2.2.s.a c.2.2.s.len c.2.2.s.cap]
abbrev intK (n : Int) : Value := .int .i64 n
abbrev Chg := Int × (HRec × HRec)
def toC (val : Nat -> List Val) (c : Chg) : Int × (Rec × Rec) := (c.1, (toR val c.2.1, toR val c.2.2))
inductive DKey
  | S | L | F | R | V
  | C (u : Nat)
  | A (u : Nat)
deriving DecidableEq
structure DLay where
  sd : Bool
  o : Nat -> Option DKey
  S : Nat
  L : Nat
  C : Nat -> Nat
  page : Int
  flds : List Fld
  fs : SV
  rs : SV
  rh : List HRec
  mode : Nat -> Int
  at_ : Nat -> Int
  asv : Nat -> SV
  ah : Nat -> List HRec
  cs : Nat -> SV
  ch : Nat -> List Chg
  lk : Int -> Option Int
def absU (d : DLay) (val : Nat -> List Val) (u : Nat) : Usr := ⟨d.mode u, d.at_ u, (d.ch u).map (toC val), (d.ah u).map (toR val)⟩
def absD (d : DLay) (val : Nat -> List Val) : Dsk := ⟨d.page, d.flds, d.rh.map (toR val), absU d val, d.lk⟩
def chH (l : List Chg) : List HRec := l.flatMap fun c => [c.2.1, c.2.2]
def uH (d : DLay) (u : Nat) : List HRec := chH (d.ch u) ++ d.ah u
def allH (d : DLay) : List HRec := d.rh ++ (uH d 0 ++ (uH d 1 ++ (uH d 2 ++ uH d 3)))
theorem mem_rh {d : DLay} {h : HRec} (hm : h ∈ d.rh) : h ∈ allH d := List.mem_append_left _ hm
theorem mem_uH {d : DLay} {u : Nat} (hu : u < 4) {h : HRec} (hm : h ∈ uH d u) : h ∈ allH d := by
  unfold allH
  simp only [List.mem_append]
  rcases (by omega : u = 0 ∨ u = 1 ∨ u = 2 ∨ u = 3) with rfl | rfl | rfl | rfl
  · exact .inr (.inl hm)
  · exact .inr (.inr (.inl hm))
  · exact .inr (.inr (.inr (.inl hm)))
  · exact .inr (.inr (.inr (.inr hm)))
theorem mem_ah {d : DLay} {u : Nat} (hu : u < 4) {h : HRec} (hm : h ∈ d.ah u) : h ∈ allH d := mem_uH hu (List.mem_append_right _ hm)
theorem mem_ch {d : DLay} {u : Nat} (hu : u < 4) {c : Chg} (hm : c ∈ d.ch u) : c.2.1 ∈ allH d /\ c.2.2 ∈ allH d := by
  constructor <;> refine mem_uH hu (List.mem_append_left _ (List.mem_flatMap.2 ⟨c, hm, by simp⟩))
def vB (l : List HRec) : List Nat := l.flatMap fun h => blkOf h.s
def updV (val : Nat -> List Val) (b : Nat) (x : List Val) : Nat -> List Val := fun c => if c = b then x else val c
theorem hv_other {val : Nat -> List Val} {b : Nat} {x : List Val} {h : HRec} (hn : b ∉ blkOf h.s) : hv (updV val b x) h = hv val h := by
  unfold hv
  cases ha : h.s.a with
  | none => rfl
  | some a =>
    have : a.block ≠ b := fun e => hn (by simp [blkOf, ha, e])
    simp [updV, this]
theorem hv_same {val : Nat -> List Val} {b : Nat} {x : List Val} {h : HRec} {a : Addr} (ha : h.s.a = some a) (hb : a.block = b) : hv (updV val b x) h = x := by
  simp [hv, ha, updV, hb]
theorem toR_other {val : Nat -> List Val} {b : Nat} {x : List Val} {h : HRec} (hn : b ∉ blkOf h.s) : toR (updV val b x) h = toR val h := by rw [toR, toR, hv_other hn]
theorem map_other {val : Nat -> List Val} {b : Nat} {x : List Val} {l : List HRec} (hn : b ∉ vB l) : l.map (toR (updV val b x)) = l.map (toR val) :=
  List.map_congr_left fun h hm => toR_other fun hb => hn (List.mem_flatMap.2 ⟨h, hm, hb⟩)
theorem mapC_other {val : Nat -> List Val} {b : Nat} {x : List Val} {l : List Chg} (hn : b ∉ vB (chH l)) : l.map (toC (updV val b x)) = l.map (toC val) :=
  List.map_congr_left fun c hm => by
    have h1 : b ∉ blkOf c.2.1.s := fun hb => hn (List.mem_flatMap.2 ⟨c.2.1, List.mem_flatMap.2 ⟨c, hm, by simp⟩, hb⟩)
    have h2 : b ∉ blkOf c.2.2.s := fun hb => hn (List.mem_flatMap.2 ⟨c.2.2, List.mem_flatMap.2 ⟨c, hm, by simp⟩, hb⟩)
    rw [toC, toC, toR_other h1, toR_other h2]
theorem vB_append (a b : List HRec) : vB (a ++ b) = vB a ++ vB b := List.flatMap_append ..
theorem vB_cons (h : HRec) (l : List HRec) : vB (h :: l) = blkOf h.s ++ vB l := List.flatMap_cons ..
theorem map_set {val : Nat -> List Val} {b : Nat} {x : List Val} : ∀ {l : List HRec} {i : Nat} {h : HRec} {a : Addr}, (vB l).Nodup -> l[i]? = some h -> h.s.a = some a -> a.block = b -> l.map (toR (updV val b x)) = (l.map (toR val)).modify i fun r => { r with v := x }
  | [], i, h, a, _, hi, _, _ => by simp at hi
  | y :: l, 0, h, a, hn, hi, ha, hb => by
    simp at hi; subst hi
    rw [vB_cons] at hn
    have hmem : b ∈ blkOf y.s := by simp [blkOf, ha, hb]
    have hno : b ∉ vB l := fun hx => (List.nodup_append.1 hn).2.2 b hmem b hx rfl
    simp only [List.map_cons, List.modify_zero_cons, map_other hno]
    rw [toR, hv_same ha hb]; rfl
  | y :: l, i + 1, h, a, hn, hi, ha, hb => by
    rw [vB_cons] at hn
    have hi : l[i]? = some h := by simpa using hi
    have hmem : b ∈ vB l := List.mem_flatMap.2 ⟨h, List.mem_of_getElem? hi, by simp [blkOf, ha, hb]⟩
    have hno : b ∉ blkOf y.s := fun hx => (List.nodup_append.1 hn).2.2 b hx b hmem rfl
    simp only [List.map_cons, List.modify_succ_cons, toR_other hno]
    rw [map_set (List.nodup_append.1 hn).2.1 hi ha hb]
theorem mem_vB {l : List HRec} {h : HRec} (hm : h ∈ l) {b : Nat} (hb : b ∈ blkOf h.s) : b ∈ vB l := List.mem_flatMap.2 ⟨h, hm, hb⟩
def DLay.withMode (d : DLay) (u : Nat) (m : Int) : DLay := { d with mode := fun v => if v = u then m else d.mode v }
def DLay.withAt (d : DLay) (u : Nat) (k : Int) : DLay := { d with at_ := fun v => if v = u then k else d.at_ v }
theorem abs_mode (d : DLay) (val : Nat -> List Val) (u : Nat) (m : Int) : absD (d.withMode u m) val = (absD d val).setU u { (absD d val).us u with mode := m } := by
  simp only [absD, Dsk.setU, DLay.withMode, Dsk.mk.injEq, true_and, and_true]
  funext v
  by_cases e : v = u
  · subst e; simp [absU]
  · simp [absU, e]
theorem abs_at (d : DLay) (val : Nat -> List Val) (u : Nat) (k : Int) : absD (d.withAt u k) val = (absD d val).setU u { (absD d val).us u with at_ := k } := by
  simp only [absD, Dsk.setU, DLay.withAt, Dsk.mk.injEq, true_and, and_true]
  funext v
  by_cases e : v = u
  · subst e; simp [absU]
  · simp [absU, e]
def Low (d : DLay) : Prop := ∀ v, 4 <= v -> d.ch v = [] /\ d.ah v = []
theorem uH_low {d : DLay} (h : Low d) {v : Nat} (hv : 4 <= v) : uH d v = [] := by obtain ⟨h1, h2⟩ := h v hv; simp [uH, h1, h2, chH]
theorem apart_rh {d : DLay} (hn : (vB (allH d)).Nodup) (hl : Low d) : (vB d.rh).Nodup /\ ∀ v b, b ∈ vB d.rh -> b ∉ vB (uH d v) := by
  unfold allH at hn
  simp only [vB_append] at hn
  obtain ⟨h1, _, h3⟩ := List.nodup_append.1 hn
  refine ⟨h1, fun v b hb hx => ?_⟩
  by_cases hv : v < 4
  · refine h3 b hb b ?_ rfl
    simp only [List.mem_append]
    rcases (by omega : v = 0 ∨ v = 1 ∨ v = 2 ∨ v = 3) with rfl | rfl | rfl | rfl <;> simp [hx]
  · rw [uH_low hl (by omega)] at hx; simp [vB] at hx
theorem apart_u {d : DLay} (hn : (vB (allH d)).Nodup) (hl : Low d) {u : Nat} (hu : u < 4) : (vB (uH d u)).Nodup /\ ∀ v, v ≠ u -> ∀ b, b ∈ vB (uH d u) -> b ∉ vB (uH d v) := by
  unfold allH at hn
  simp only [vB_append] at hn
  obtain ⟨_, h2, _⟩ := List.nodup_append.1 hn
  obtain ⟨a1, a2, a3⟩ := List.nodup_append.1 h2
  obtain ⟨b1, b2, b3⟩ := List.nodup_append.1 a2
  obtain ⟨c1, c2, c3⟩ := List.nodup_append.1 b2
  refine ⟨by rcases (by omega : u = 0 ∨ u = 1 ∨ u = 2 ∨ u = 3) with rfl | rfl | rfl | rfl <;> assumption, fun v hv b hb hx => ?_⟩
  by_cases hv4 : v < 4
  · have key : ∀ i j, i < 4 -> j < 4 -> i < j -> ∀ b, b ∈ vB (uH d i) -> b ∈ vB (uH d j) -> False := fun i j hi hj hij b hbi hbj => by
      rcases (by omega : (i = 0 /\ 1 <= j) ∨ (i = 1 /\ 2 <= j) ∨ (i = 2 /\ j = 3)) with ⟨rfl, _⟩ | ⟨rfl, _⟩ | ⟨rfl, rfl⟩
      · refine a3 b hbi b ?_ rfl
        simp only [List.mem_append]
        rcases (by omega : j = 1 ∨ j = 2 ∨ j = 3) with rfl | rfl | rfl <;> simp [hbj]
      · refine b3 b hbi b ?_ rfl
        simp only [List.mem_append]
        rcases (by omega : j = 2 ∨ j = 3) with rfl | rfl <;> simp [hbj]
      · exact c3 b hbi b hbj rfl
    rcases Nat.lt_or_gt_of_ne hv with h | h
    · exact key v u hv4 hu h b hx hb
    · exact key u v hu hv4 h b hb hx
  · rw [uH_low hl (by omega)] at hx; simp [vB] at hx
theorem absU_other {d : DLay} {val : Nat -> List Val} {b : Nat} {x : List Val} {v : Nat} (h : b ∉ vB (uH d v)) : absU d (updV val b x) v = absU d val v := by
  simp only [uH, vB_append, List.mem_append, not_or] at h
  simp only [absU, mapC_other h.1, map_other h.2]
theorem abs_upd_rec {d : DLay} {val : Nat -> List Val} {x : List Val} {i : Nat} {h : HRec} {a : Addr} (hn : (vB (allH d)).Nodup) (hl : Low d) (hi : d.rh[i]? = some h) (ha : h.s.a = some a) :
    absD d (updV val a.block x) = { absD d val with recs := (absD d val).recs.modify i fun r => { r with v := x } } := by
  obtain ⟨h1, h2⟩ := apart_rh hn hl
  have hm : a.block ∈ vB d.rh := List.mem_flatMap.2 ⟨h, List.mem_of_getElem? hi, by simp [blkOf, ha]⟩
  simp only [absD, map_set h1 hi ha rfl, Dsk.mk.injEq, true_and, and_true]
  funext v
  exact absU_other (h2 v _ hm)
theorem abs_upd_ap {d : DLay} {val : Nat -> List Val} {x : List Val} {u i : Nat} {h : HRec} {a : Addr} (hn : (vB (allH d)).Nodup) (hl : Low d) (hu : u < 4) (hi : (d.ah u)[i]? = some h) (ha : h.s.a = some a) :
    absD d (updV val a.block x) = (absD d val).setU u { (absD d val).us u with ap := ((absD d val).us u).ap.modify i fun r => { r with v := x } } := by
  obtain ⟨h1, h2⟩ := apart_u hn hl hu
  obtain ⟨g1, g2⟩ := apart_rh hn hl
  have hm0 : a.block ∈ vB (d.ah u) := List.mem_flatMap.2 ⟨h, List.mem_of_getElem? hi, by simp [blkOf, ha]⟩
  have hm : a.block ∈ vB (uH d u) := by rw [uH, vB_append]; exact List.mem_append_right _ hm0
  have hr : a.block ∉ vB d.rh := fun hx => g2 u _ hx hm
  rw [uH, vB_append] at h1
  obtain ⟨k1, k2, k3⟩ := List.nodup_append.1 h1
  have hc : a.block ∉ vB (chH (d.ch u)) := fun hx => k3 _ hx _ hm0 rfl
  simp only [absD, map_other hr, Dsk.setU, Dsk.mk.injEq, true_and, and_true]
  funext v
  by_cases e : v = u
  · subst e
    simp only [if_true, absU, mapC_other hc, map_set k2 hi ha rfl]
  · simp only [if_neg e]; exact absU_other (h2 v e _ hm)
end Go.Proofs.YtcihcbfcgjepfaaGreatDoor

/- Desks: how the program's desk lies in memory; its mutex; entering and leaving; modes. No condition but those stated. -/
set_option maxRecDepth 100000
set_option linter.unusedVariables false
set_option linter.unusedSimpArgs false
namespace Go.Proofs.YtcihcbfcgjepfaaGreatDoor
open Go.Sh Go.RowKit
variable {w w' : World} {d d' : DLay} {val : Nat -> List Val} {mu : Int}
theorem bu32 : Tryz.prog.underlying 32 = some (.pointer 93) := by kernel_rfl
theorem bu88 : Tryz.prog.underlying 88 = some (.map 3 133) := by kernel_rfl
theorem bu80 : Tryz.prog.underlying 80 = some (.map 3 3) := by kernel_rfl
theorem bu23 : Tryz.prog.underlying 23 = some (.slice 77) := by kernel_rfl
def deskC (mu : Int) (d : DLay) : Array Value := #[.int .i32 mu, .int .u32 0, .int .i64 d.page, .slice d.fs.a d.fs.len d.fs.cap, .slice d.rs.a d.rs.len d.rs.cap,
  .int .i64 (d.mode 0), .int .i64 (d.at_ 0), .map (some (d.C 0)), .slice (d.asv 0).a (d.asv 0).len (d.asv 0).cap,
  .int .i64 (d.mode 1), .int .i64 (d.at_ 1), .map (some (d.C 1)), .slice (d.asv 1).a (d.asv 1).len (d.asv 1).cap,
  .int .i64 (d.mode 2), .int .i64 (d.at_ 2), .map (some (d.C 2)), .slice (d.asv 2).a (d.asv 2).len (d.asv 2).cap,
  .int .i64 (d.mode 3), .int .i64 (d.at_ 3), .map (some (d.C 3)), .slice (d.asv 3).a (d.asv 3).len (d.asv 3).cap, .map (some d.L)]
structure BodyAt (w : World) (d : DLay) (val : Nat -> List Val) : Prop where
  fl : RowAt w 38 4 d.fs (d.flds.flatMap fldV)
  rw_ : RowAt w 77 2 d.rs (d.rh.flatMap recC)
  aw : ∀ u, u < 4 -> RowAt w 77 2 (d.asv u) ((d.ah u).flatMap recC)
  mp : d.sd = false -> ∀ u, u < 4 -> MapAt w intK chV (d.C u) (d.ch u)
  ml : d.sd = true -> ∀ u, u < 4 -> RowAt w 136 5 (d.cs u) ((d.ch u).flatMap chC)
  lm : ∃ l, MapAt w intK intK d.L l /\ ∀ k, AL.get l k = (d.lk k).map fun v => if d.sd then v + 1 else v
  vr : ∀ h ∈ allH d, RowAt w 28 3 h.s ((hv val h).flatMap valV)
  low : Low d
  nd : (vB (allH d)).Nodup
  oS : d.o d.S = some .S
  oL : d.o d.L = some .L
  oC : d.sd = false -> ∀ u, u < 4 -> d.o (d.C u) = some (.C u)
  oK : d.sd = true -> ∀ u, u < 4 -> ∀ b ∈ blkOf (d.cs u), d.o b = some (.C u)
  oF : ∀ b ∈ blkOf d.fs, d.o b = some .F
  oR : ∀ b ∈ blkOf d.rs, d.o b = some .R
  oA : ∀ u, u < 4 -> ∀ b ∈ blkOf (d.asv u), d.o b = some (.A u)
  oV : ∀ b ∈ vB (allH d), d.o b = some .V
  lt : ∀ b, d.o b ≠ none -> b < w.heap.size
structure DeskAt (w : World) (d : DLay) (mu : Int) (val : Nat -> List Val) : Prop where
  st : w.heap[d.S]? = some (.cells (deskC mu d) 93)
  bd : BodyAt w d val
  sd : d.sd = false
theorem DeskAt.mp {w : World} {d : DLay} {mu : Int} {val : Nat -> List Val} (h : DeskAt w d mu val) {u : Nat} (hu : u < 4) : MapAt w intK chV (d.C u) (d.ch u) := h.bd.mp h.sd u hu
theorem DeskAt.lm {w : World} {d : DLay} {mu : Int} {val : Nat -> List Val} (h : DeskAt w d mu val) : ∃ l, MapAt w intK intK d.L l /\ ∀ k, AL.get l k = d.lk k := by
  obtain ⟨l, h1, h2⟩ := h.bd.lm
  exact ⟨l, h1, fun k => by rw [h2, h.sd]; cases d.lk k <;> rfl⟩
def DLay.ptr (d : DLay) : Value := .pointer (some ⟨d.S, 0, none⟩)
theorem BodyAt.fr {B : Nat -> Prop} (h : BodyAt w d val) (hf : Fr B w w') (hn : ∀ b κ, d.o b = some κ -> κ ≠ .S -> ¬ B b) : BodyAt w' d val where
  fl := h.fl.fr hf fun b hb => hn b _ (h.oF b hb) (by simp)
  rw_ := h.rw_.fr hf fun b hb => hn b _ (h.oR b hb) (by simp)
  aw := fun u hu => (h.aw u hu).fr hf fun b hb => hn b _ (h.oA u hu b hb) (by simp)
  mp := fun e u hu => (h.mp e u hu).fr hf (hn _ _ (h.oC e u hu) (by simp))
  ml := fun e u hu => (h.ml e u hu).fr hf fun b hb => hn b _ (h.oK e u hu b hb) (by simp)
  lm := let ⟨l, h1, h2⟩ := h.lm; ⟨l, h1.fr hf (hn _ _ h.oL (by simp)), h2⟩
  vr := fun x hx => (h.vr x hx).fr hf fun b hb => hn b _ (h.oV b (mem_vB hx hb)) (by simp)
  low := h.low
  nd := h.nd
  oS := h.oS
  oL := h.oL
  oC := h.oC
  oK := h.oK
  oF := h.oF
  oR := h.oR
  oA := h.oA
  oV := h.oV
  lt := fun b hb => Nat.lt_of_lt_of_le (h.lt b hb) hf.size
theorem DeskAt.fr {B : Nat -> Prop} (h : DeskAt w d mu val) (hf : Fr B w w') (hn : ∀ b, d.o b ≠ none -> ¬ B b) : DeskAt w' d mu val :=
  ⟨hf.blk h.st (hn _ (by rw [h.bd.oS]; simp)), h.bd.fr hf fun b κ hb _ => hn b (by rw [hb]; simp), h.sd⟩
theorem DeskAt.pu (h : DeskAt w d mu val) (hp : Pu w w') : DeskAt w' d mu val := h.fr (Fr.pu hp : Fr (fun _ => False) w w') fun _ _ h => h
theorem DeskAt.cell (h : DeskAt w d mu val) (o : Nat) : w.cell? ⟨d.S, o, none⟩ = (deskC mu d)[o]? := cell_blk h.st o
theorem DeskAt.cellA (h : DeskAt w d mu val) (o : Nat) : w.cell? ((⟨d.S, 0, none⟩ : Addr).add o) = (deskC mu d)[o]? := by rw [add_def, Nat.zero_add]; exact h.cell o
abbrev uA (d : DLay) (u : Nat) : Addr := ⟨d.S, 5 + u * 4, none⟩
theorem DeskAt.cellU (h : DeskAt w d mu val) {u : Nat} (hu : u < 4) (o : Nat) : w.cell? ((uA d u).add o) = (deskC mu d)[5 + u * 4 + o]? := by rw [add_def]; exact h.cell _
theorem desk_mode {u : Nat} (hu : u < 4) : (deskC mu d)[5 + u * 4 + 0]? = some (.int .i64 (d.mode u)) := by
  rcases (by omega : u = 0 ∨ u = 1 ∨ u = 2 ∨ u = 3) with rfl | rfl | rfl | rfl <;> rfl
theorem desk_at {u : Nat} (hu : u < 4) : (deskC mu d)[5 + u * 4 + 1]? = some (.int .i64 (d.at_ u)) := by
  rcases (by omega : u = 0 ∨ u = 1 ∨ u = 2 ∨ u = 3) with rfl | rfl | rfl | rfl <;> rfl
theorem desk_C {u : Nat} (hu : u < 4) : (deskC mu d)[5 + u * 4 + 2]? = some (.map (some (d.C u))) := by
  rcases (by omega : u = 0 ∨ u = 1 ∨ u = 2 ∨ u = 3) with rfl | rfl | rfl | rfl <;> rfl
theorem desk_as {u : Nat} (hu : u < 4) : (deskC mu d)[5 + u * 4 + 3]? = some (.slice (d.asv u).a (d.asv u).len (d.asv u).cap) := by
  rcases (by omega : u = 0 ∨ u = 1 ∨ u = 2 ∨ u = 3) with rfl | rfl | rfl | rfl <;> rfl
theorem deskC_mode {u : Nat} (hu : u < 4) (m : Int) : (deskC mu d).setIfInBounds (5 + u * 4) (.int .i64 m) = deskC mu (d.withMode u m) := by
  rcases (by omega : u = 0 ∨ u = 1 ∨ u = 2 ∨ u = 3) with rfl | rfl | rfl | rfl <;> rfl
theorem deskC_at {u : Nat} (hu : u < 4) (m : Int) : (deskC mu d).setIfInBounds (5 + u * 4 + 1) (.int .i64 m) = deskC mu (d.withAt u m) := by
  rcases (by omega : u = 0 ∨ u = 1 ∨ u = 2 ∨ u = 3) with rfl | rfl | rfl | rfl <;> rfl
theorem DeskAt.own (h : DeskAt w d mu val) {mu' : Int} {o : Nat} {v : Value} (ho : o < 22) {K : World -> Prop} (hc : (deskC mu d).setIfInBounds o v = deskC mu' d') (hS : d'.S = d.S) (hsd : d'.sd = d.sd) (hb : ∀ x, BodyAt x d val -> BodyAt x d' val)
    (hK : ∀ x, DeskAt x d' mu' val -> Fr (· = d.S) w x -> x.heap.size = w.heap.size -> K x) : st1 ⟨d.S, o, none⟩ v w K := by
  refine st1_intro h.st ho fun x hx hbx => ?_
  have hf : Fr (· = d.S) w x := by rw [hx]; exact Fr.cell w _ _ _
  refine hK x ⟨by rw [hS, hbx, hc], hb x (h.bd.fr hf fun b κ hb hne e => ?_), by rw [hsd, h.sd]⟩ hf (by rw [hx]; simp)
  rw [show b = d.S from e, h.bd.oS] at hb
  exact hne (Option.some.inj hb).symm
theorem BodyAt.same (h : BodyAt w d val) (m a : Nat -> Int) : BodyAt w { d with mode := m, at_ := a } val := ⟨h.fl, h.rw_, h.aw, h.mp, h.ml, h.lm, h.vr, h.low, h.nd, h.oS, h.oL, h.oC, h.oK, h.oF, h.oR, h.oA, h.oV, h.lt⟩
structure DLeft (w w' : World) (d d' : DLay) (mu : Int) (val' : Nat -> List Val) : Prop where
  sys : DeskAt w' d' mu val'
  fr : Fr (fun b => d.o b ≠ none) w w'
  own : ∀ b, d'.o b ≠ none -> d.o b ≠ none ∨ w.heap.size <= b
  ptr : d'.S = d.S
theorem DLeft.refl (h : DeskAt w d mu val) : DLeft w w d d mu val := ⟨h, Fr.refl _ _, fun _ h => .inl h, rfl⟩
theorem DLeft.pu (h : DeskAt w d mu val) (hp : Pu w w') : DLeft w w' d d mu val := ⟨h.pu hp, Fr.pu hp, fun _ h => .inl h, rfl⟩
theorem DLeft.trans {w'' : World} {d'' : DLay} {mu' : Int} {val' val'' : Nat -> List Val} (h : DLeft w w' d d' mu val') (k : DLeft w' w'' d' d'' mu' val'') : DLeft w w'' d d'' mu' val'' := by
  refine ⟨k.sys, h.fr.trans k.fr fun b hb hlt => (h.own b hb).resolve_right (by omega), fun b hb => ?_, k.ptr.trans h.ptr⟩
  rcases k.own b hb with h1 | h1
  · exact h.own b h1
  · exact .inr (Nat.le_trans h.fr.size h1)
theorem disable (w : World) : (callFunc 168 #[]).run Tryz.prog w = .ok (.value (.tuple #[])) w := run_call_mark0 Tryz.func168 (by kernel_rfl) (by kernel_rfl) (by kernel_rfl) .disable (by kernel_rfl) w
theorem enable (w : World) : (callFunc 170 #[]).run Tryz.prog w = .ok (.value (.tuple #[])) w := run_call_mark0 Tryz.func170 (by kernel_rfl) (by kernel_rfl) (by kernel_rfl) .enable (by kernel_rfl) w
theorem acquire (a : Addr) (w : World) : (callFunc 171 #[.pointer (some a)]).run Tryz.prog w = .ok (.value (.tuple #[])) w := run_call_marked Tryz.func171 (by kernel_rfl) (by kernel_rfl) (by kernel_rfl) .acquire (by kernel_rfl) a w
theorem relMerge (a : Addr) (w : World) : (callFunc 173 #[.pointer (some a)]).run Tryz.prog w = .ok (.value (.tuple #[])) w := run_call_marked Tryz.func173 (by kernel_rfl) (by kernel_rfl) (by kernel_rfl) .releaseMerge (by kernel_rfl) a w
theorem mu1 : Tryz.prog.underlying 202 = some (.pointer 85) := by kernel_rfl
theorem mu2 : Tryz.prog.underlying 206 = some .unsafePointer := by kernel_rfl
theorem mu3 : (Tryz.prog.info? 85).map (fun i => decide (i.size = 0)) = some false := by kernel_rfl
theorem muLock {a : Addr} {w : World} (hc : w.cell? a = some (.int .i32 0)) (hz : w.frozen? a = false) :
    Calls Tryz.prog 85 #[.pointer (some a)] w fun e w' => e = .returned (.tuple #[]) /\ w' = w.setCell a (.int .i32 1) := by
  refine F85_calls _ w _ ?_
  refine Calls.mono (R := fun e w' => e = .returned (.tuple #[]) /\ w' = w.setCell a (.int .i32 1)) ?_ fun e w' h => ⟨h.1, rfl, h.2⟩
  refine F138_calls _ w _ ?_
  refine ⟨w, disable w, true, w.setCell a (.int .i32 1), run_call_cas_hit Tryz.func169 (by kernel_rfl) (by kernel_rfl) (by kernel_rfl) .i32 (by kernel_rfl) hc hz, ?_⟩
  have hc' : (w.setCell a (.int .i32 1)).cell? a = some (.int .i32 1) := World.cell?_setCell_same _ _ _ hc
  exact ⟨_, enable _, _, _, run_convert_to_unsafe mu1 mu2 mu3 hc', _, acquire a _, rfl, rfl⟩
theorem muUnlock {a : Addr} {w : World} (hc : w.cell? a = some (.int .i32 1)) (hz : w.frozen? a = false) (u : FrameMode) :
    CallsD Tryz.prog 86 #[.pointer (some a)] u w fun e u' w' => u' = u /\ e = .returned (.tuple #[]) /\ w' = w.setCell a (.int .i32 0) := by
  refine F86_callsD _ w (fun e w' => e = .returned (.tuple #[]) /\ w' = w.setCell a (.int .i32 0)) u ?_
  refine Calls.mono (R := fun e w' => e = .returned (.tuple #[]) /\ w' = w.setCell a (.int .i32 0)) ?_ fun e w' h => ⟨h.1, rfl, h.2⟩
  refine F139_calls _ w _ ?_
  refine ⟨1, hc, _, _, run_convert_to_unsafe mu1 mu2 mu3 hc, _, relMerge a _, _, disable _, 0, w.setCell a (.int .i32 0),
    run_call_add Tryz.func174 (by kernel_rfl) (by kernel_rfl) (by kernel_rfl) .i32 (by kernel_rfl) hc hz (by simp [go_sem]; rfl), w.setCell a (.int .i32 0), enable _, rfl, rfl⟩
theorem DeskAt.setMu (h : DeskAt w d mu val) (m : Int) : DeskAt (w.setCell ⟨d.S, 0, none⟩ (.int .i32 m)) d m val := by
  have hf := Fr.cell w d.S 0 (.int .i32 m)
  refine ⟨?_, h.bd.fr hf fun b κ hb hne e => ?_, h.sd⟩
  · rw [setCell_blk h.st 0 (.int .i32 m)]; rfl
  · rw [show b = d.S from e, h.bd.oS] at hb
    exact hne (Option.some.inj hb).symm
def leaveV (d : DLay) : Value := .func (.func 86) #[d.ptr] #[]
def leaveD (d : DLay) : Deferred := { target := .fn (.func 86) #[], args := #[d.ptr] }
def uV (d : DLay) (u : Int) : Value := .pointer (if isU u = true then some (uA d u.toNat) else none)
theorem enter_c (h : DeskAt w d 0 val) (u : Int) :
    Calls Tryz.prog 47 #[d.ptr, .int .i64 u] w fun e w' => e = .returned (.tuple #[uV d u, leaveV d, .int .i64 (uC u)]) /\ DeskAt w' d 1 val /\ Fr (· = d.S) w w' /\ w'.heap.size = w.heap.size := by
  refine F47_calls _ u w _ ⟨false, w, eqS_ptr_nil bu32 _ _ _ w, ?_⟩
  show Calls Tryz.prog 85 #[.pointer (some ⟨d.S, 0, none⟩)] w _
  refine Calls.mono (muLock (by rw [h.cell]; rfl) (frozen_blk h.st 0)) ?_
  rintro e w1 ⟨rfl, hw1⟩
  have h1 : DeskAt w1 d 1 val := by rw [hw1]; exact h.setMu 1
  have hf1 : Fr (· = d.S) w w1 := by rw [hw1]; exact Fr.cell w _ _ _
  have hs1 : w1.heap.size = w.heap.size := by rw [hw1]; simp
  have fin : ∀ {w2 : World}, Pu w1 w2 -> w2.heap = w1.heap -> DeskAt w2 d 1 val /\ Fr (· = d.S) w w2 /\ w2.heap.size = w.heap.size := fun {w2} hp hh => ⟨h1.pu hp, hf1.trans (Fr.pu hp : Fr (· = d.S) w1 w2) fun i hi _ => hi, by rw [hh]; exact hs1⟩
  refine ⟨rfl, Br.of (fun c1 => dwE_intro fun w2 hp2 hh2 => ?_) (fun c1 => Br.of (fun c2 => dwE_intro fun w2 hp2 hh2 => ?_) (fun c2 => dwE_intro fun w2 hp2 hh2 => ?_))⟩
  · have c1 := dtrue c1
    have hu : isU u = false := by simp [isU]; omega
    exact ⟨by simp only [uV, uC, hu]; rfl, fin hp2 hh2⟩
  · have c2 := dtrue c2
    have hu : isU u = false := by simp [isU]; omega
    exact ⟨by simp only [uV, uC, hu]; rfl, fin hp2 hh2⟩
  · have c1 := dfalse c1
    have c2 := dfalse c2
    have hu : isU u = true := by simp [isU]; omega
    refine ⟨by omega, by omega, ?_, fin hp2 hh2⟩
    simp only [uV, uC, hu, if_true]
    rw [add_def, add_def]
    rfl
theorem leave_c (h : DeskAt w d 1 val) {K : World -> Prop} (hK : ∀ w', DeskAt w' d 0 val -> Fr (· = d.S) w w' -> w'.heap.size = w.heap.size -> K w') : runD Tryz.prog [leaveD d] w K := by
  show dcall Tryz.prog (leaveD d) w _
  show CallsD Tryz.prog 86 #[.pointer (some ⟨d.S, 0, none⟩)] .returning w _
  refine CallsD.mono (muUnlock (by rw [h.cell]; rfl) (frozen_blk h.st 0) .returning) ?_
  rintro e u' w' ⟨rfl, rfl, rfl⟩
  exact ⟨⟨_, rfl⟩, rfl, hK _ (h.setMu 0) (Fr.cell w _ _ _) (by simp)⟩
theorem leave_left {w0 : World} {d0 : DLay} (h : DLeft w0 w d0 d 1 val) {K : World -> Prop} (hK : ∀ w', DLeft w0 w' d0 d 0 val -> Fr (· = d.S) w w' -> w'.heap.size = w.heap.size -> K w') : runD Tryz.prog [leaveD d] w K :=
  leave_c h.sys fun w' h' hf hs => hK w' (h.trans ⟨h', hf.mono fun i hi _ => by rw [show i = d.S from hi, h.sys.bd.oS]; simp, fun _ h => .inl h, rfl⟩) hf hs
theorem DLeft.enter {w1 : World} (h : DeskAt w d 0 val) (h1 : DeskAt w1 d 1 val) (hf : Fr (· = d.S) w w1) : DLeft w w1 d d 1 val :=
  ⟨h1, hf.mono fun i hi _ => by rw [show i = d.S from hi, h.bd.oS]; simp, fun _ h => .inl h, rfl⟩
theorem isU_nat {u : Int} (h : isU u = true) : ∃ n : Nat, u = (n : Int) /\ n < 4 := by
  simp [isU] at h
  exact ⟨u.toNat, by omega, by omega⟩
theorem uC_ne {u : Int} (h : (uC u != 0) = true) : ¬ isU u = true := by
  intro hu; simp [uC, hu] at h
theorem uC_eq {u : Int} (h : (uC u != 0) = false) : isU u = true := by
  cases hu : isU u with
  | true => rfl
  | false => simp [uC, hu] at h
theorem uP_ok {u : Nat} (h : u < 4) : (if isU (u : Int) = true then some (uA d (u : Int).toNat) else none) = some (uA d u) := by
  have : isU (u : Int) = true := by simp [isU]; omega
  simp [this]
theorem ah_len {u : Nat} : ((absD d val).us u).ap.length = (d.ah u).length := by simp [absD, absU]
theorem ch_len {u : Nat} : ((absD d val).us u).ch.length = (d.ch u).length := by simp [absD, absU]
theorem DeskAt.as_len (h : DeskAt w d mu val) {u : Nat} (hu : u < 4) : (d.asv u).len = (d.ah u).length := (h.bd.aw u hu).len recC_len (by decide)
theorem isEmpty_c (h : DeskAt w d mu val) {u : Nat} (hu : u < 4) : Calls Tryz.prog 48 #[.pointer (some (uA d u))] w fun e w' => e = .returned (.bool ((absD d val).us u).emp) /\ w' = w := by
  refine F48_calls _ w _ ⟨some (d.C u), by rw [h.cellU hu]; exact desk_C hu, _, w, (h.mp hu).len rfl bu88, Br.of (fun c => ?_) (fun c => ?_)⟩
  · refine ⟨d.asv u, by rw [h.cellU hu]; exact desk_as hu, ?_, rfl⟩
    have hc : (d.ch u).length = 0 := by have := btrue c; omega
    rw [h.as_len hu, Usr.emp, ah_len, ch_len, hc]
    congr 2
    by_cases e : (d.ah u).length = 0
    · simp [e]
    · simp [e]
  · have hc : (d.ch u).length ≠ 0 := by have := bfalse c; omega
    refine ⟨?_, rfl⟩
    rw [Usr.emp, ah_len, ch_len, decide_eq_false (by omega)]
theorem isRows_c (h : DeskAt w d mu val) {u : Nat} (hu : u < 4) : Calls Tryz.prog 103 #[.pointer (some (uA d u))] w fun e w' => e = .returned (.bool ((absD d val).us u).rows) /\ w' = w := by
  have hm : w.cell? (uA d u) = some (.int .i64 (d.mode u)) := by
    have := h.cellU hu 0
    rw [add0] at this
    rw [this]; exact desk_mode hu
  have e : ((absD d val).us u).rows = (decide (d.mode u = 1) || decide (d.mode u = 2)) := rfl
  rw [e]
  refine F103_calls _ w _ ⟨_, hm, Br.of (fun c => ⟨?_, rfl⟩) (fun c => ⟨_, hm, ?_, rfl⟩)⟩
  · rw [decide_eq_true (btrue c)]; rfl
  · have c := bfalse c
    rw [decide_eq_false c, Bool.false_or]
    rfl
theorem mode_c (h : DeskAt w d 0 val) (u m : Int) : Calls Tryz.prog 14 #[d.ptr, .int .i64 u, .int .i64 m] w fun e w' => e = .returned (.int .i64 (modeC u m (absD d val))) /\ ∃ d', DLeft w w' d d' 0 val /\ absD d' val = modeS u m (absD d val) := by
  refine F14_calls _ u m w _ ?_
  refine Calls.mono (enter_c h u) ?_
  rintro e w1 ⟨rfl, h1, hf1, _⟩
  have L1 := DLeft.enter h h1 hf1
  have bad : ∀ (n : Int), n ≠ 0 -> modeC u m (absD d val) = n -> runD Tryz.prog [leaveD d] w1 fun w' => Ending.returned (.int .i64 n) = .returned (.int .i64 (modeC u m (absD d val))) /\ ∃ d', DLeft w w' d d' 0 val /\ absD d' val = modeS u m (absD d val) := fun n hn hC =>
    leave_left L1 fun w' hL _ _ => ⟨by rw [hC], d, hL, by rw [modeS, hC, if_neg hn]⟩
  refine ⟨_, _, _, rfl, Br.of (fun c => ?_) (fun c => ?_)⟩
  · have hu := uC_ne c
    have hC : modeC u m (absD d val) = 1 := by rw [modeC, if_pos hu]
    have e : uC u = 1 := by rw [uC, if_neg hu]
    rw [e]
    exact bad 1 (by decide) hC
  have hu := uC_eq c
  refine Br.of (fun c1 => bad 1 (by decide) (by rw [modeC, if_neg (by simp [hu]), if_pos (.inl (dtrue c1))])) (fun c1 => Br.of (fun c2 => bad 1 (by decide) (by rw [modeC, if_neg (by simp [hu]), if_pos (.inr (dtrue c2))])) (fun c2 => ?_))
  have c1 := dfalse c1
  have c2 := dfalse c2
  obtain ⟨n, rfl, hn⟩ := isU_nat hu
  rw [uP_ok hn]
  refine Calls.mono (isEmpty_c h1 hn) ?_
  rintro e w2 ⟨rfl, rfl⟩
  refine ⟨_, rfl, Br.of (fun c3 => bad 9 (by decide) ?_) (fun c3 => ?_)⟩
  · rw [modeC, if_neg (by simp [hu]), if_neg (by omega), if_pos (by simpa using c3)]
  have hC : modeC (n : Int) m (absD d val) = 0 := by
    have c3 : ((absD d val).us n).emp = true := by simpa using c3
    rw [modeC, if_neg (by simp [hu]), if_neg (by omega), if_neg (by rw [Int.toNat_natCast, c3]; simp)]
  rw [ptrE_some]
  refine h1.own (d' := d.withMode n m) (mu' := 1) (by omega) (deskC_mode hn m) rfl rfl (fun x hb => hb.same _ _) fun w3 h3 hf3 hs3 => ?_
  have L3 : DLeft w w3 d (d.withMode n m) 1 val := L1.trans ⟨h3, hf3.mono fun i hi _ => by rw [show i = d.S from hi, h.bd.oS]; simp, fun _ h => .inl h, rfl⟩
  exact leave_left L3 fun w' hL _ _ => ⟨by rw [hC], _, hL, by rw [modeS, if_pos hC, abs_mode, Int.toNat_natCast]⟩
end Go.Proofs.YtcihcbfcgjepfaaGreatDoor

/- Desks: records and fields copied; a new desk. No condition but those stated. -/
set_option maxRecDepth 100000
set_option linter.unusedVariables false
set_option linter.unusedSimpArgs false
namespace Go.Proofs.YtcihcbfcgjepfaaGreatDoor
open Go.Sh Go.RowKit
variable {w w' : World} {d d' : DLay} {val : Nat -> List Val} {mu : Int}
theorem bu75 : Tryz.prog.underlying 75 = some (.slice 28) := by kernel_rfl
theorem bu22 : Tryz.prog.underlying 22 = some (.slice 38) := by kernel_rfl
theorem binfo28 : (Tryz.prog.info? 28).map (fun i => (i.zero, i.size, i.bytes)) = some (some (.agg #[.int .i64 0, .int .i64 0, .string ⟨#[]⟩]), 3, 32) := by kernel_rfl
theorem binfo38 : (Tryz.prog.info? 38).map (fun i => (i.zero, i.size, i.bytes)) = some (some (.agg #[.string ⟨#[]⟩, .int .i64 0, .int .i64 0, .bool false]), 4, 40) := by kernel_rfl
theorem binfo77 : (Tryz.prog.info? 77).map (fun i => (i.zero, i.size, i.bytes)) = some (some (.agg #[.bool false, .slice none 0 0]), 2, 32) := by kernel_rfl
theorem bs77 : sizeB Tryz.prog 77 = 2 := by kernel_rfl
theorem bs133 : sizeB Tryz.prog 133 = 4 := by kernel_rfl
theorem bs28 : sizeB Tryz.prog 28 = 3 := by kernel_rfl
theorem cloneV_c {s : SV} {l : List Val} (h : RdV w s l) (hb : l.length <= 1000000) : Calls Tryz.prog 141 #[.slice s.a s.len s.cap] w fun e w' => ∃ q : SV, e = .returned (.slice q.a q.len q.cap) /\ NewV w w' q l /\ Pu w w' := by
  refine F141_calls s w _ ⟨_, w, eqS_slice_nil bu75 _ _ _ _ _ w, Br.of (fun hn => ?_) (fun hn => ?_)⟩
  · have hl : l = [] := by
      cases l with
      | nil => rfl
      | cons v l =>
        obtain ⟨a, ha, _⟩ := h.get 0 v rfl
        rw [ha] at hn; cases hn
    subst hl
    exact ⟨⟨none, 0, 0⟩, rfl, NewV.nil w w, Pu.refl w⟩
  · refine alE_intro fun w1 hw1 => ?_
    have hp1 : Pu w w1 := by rw [hw1]; exact Pu.alloc w _
    have hr0 : RowAt w1 28 3 ⟨some ⟨w.heap.size, 0, none⟩, 0, 0⟩ [] := ⟨rfl, .inr ⟨_, #[], rfl, by rw [hw1]; exact alloc_new w _, Nat.le_refl _, Nat.zero_le _, rfl, rfl⟩⟩
    have h1 := h.pu hp1
    have hlen := h.len
    obtain ⟨t, w2, hr, hrow, hf, hblk, _⟩ := row_append_any (P := Tryz.prog) (ty := 75) bu75 binfo28 rfl (by omega) hr0 (A := s.a) (m := s.len) (c := s.cap) (news := l.flatMap valV) (by rw [flatMap_len valV_len, hlen]) (fun j x hx => by
      have hj : j < l.length * 3 := by have := (List.getElem?_eq_some_iff.1 hx).1; rwa [flatMap_len valV_len] at this
      obtain ⟨v, hv⟩ := at_k (l := l) (k := j / 3) (by omega)
      obtain ⟨a, ha, c0, c1, c2⟩ := h1.get _ v hv
      have h2 := flatMap_at valV_len hv (j % 3) (by omega)
      rw [show j / 3 * 3 + j % 3 = j by omega, hx] at h2
      refine ⟨a, ha, ?_⟩
      have e : a.add j = (a.add (j / 3 * 3)).add (j % 3) := by
        rw [Addr.add_add]; congr 1; omega
      rw [e]
      rcases (by omega : j % 3 = 0 ∨ j % 3 = 1 ∨ j % 3 = 2) with e2 | e2 | e2 <;> rw [e2] at h2 ⊢ <;> simp [valV] at h2 <;> subst h2 <;> assumption) (fun x hx => by
        obtain ⟨y, _, hy⟩ := List.mem_flatMap.1 hx
        simp [valV] at hy
        rcases hy with rfl | rfl | rfl <;> rfl) (by show (0 + s.len) * (32 + 1) <= _; omega)
    rw [List.nil_append] at hrow
    refine ⟨t, w2, hr, t, rfl, ⟨hrow, fun b hb => ?_⟩, hp1.andNew hf fun b hb => by simp [blkOf] at hb; omega⟩
    rcases hblk b hb with h | h
    · simp [blkOf] at h; omega
    · have := hp1.size; omega
theorem cloneF_c {s : SV} {l : List Fld} (h : RdSl w s l) (hb : l.length <= 1000000) : Calls Tryz.prog 39 #[.slice s.a s.len s.cap] w fun e w' => ∃ q : SV, e = .returned (.slice q.a q.len q.cap) /\ RowAt w' 38 4 q (l.flatMap fldV) /\ (∀ b ∈ blkOf q, w.heap.size <= b) /\ Pu w w' := by
  have fl : ∀ f : Fld, (fldV f).length = 4 := fun f => rfl
  refine F39_calls s w _ ⟨_, w, eqS_slice_nil bu22 _ _ _ _ _ w, Br.of (fun hn => ?_) (fun hn => ?_)⟩
  · have hl : l = [] := by
      cases l with
      | nil => rfl
      | cons v l =>
        obtain ⟨a, ha, _⟩ := fldAt h (i := 0) (f := v) rfl
        rw [ha] at hn; cases hn
    subst hl
    exact ⟨⟨none, 0, 0⟩, rfl, RowAt.nil _ _ _, by simp [blkOf], Pu.refl w⟩
  · refine alE_intro fun w1 hw1 => ?_
    have hp1 : Pu w w1 := by rw [hw1]; exact Pu.alloc w _
    have hr0 : RowAt w1 38 4 ⟨some ⟨w.heap.size, 0, none⟩, 0, 0⟩ [] := ⟨rfl, .inr ⟨_, #[], rfl, by rw [hw1]; exact alloc_new w _, Nat.le_refl _, Nat.zero_le _, rfl, rfl⟩⟩
    have h1 := h.pu hp1
    have hlen := h.len
    obtain ⟨t, w2, hr, hrow, hf, hblk, _⟩ := row_append_any (P := Tryz.prog) (ty := 22) bu22 binfo38 rfl (by omega) hr0 (A := s.a) (m := s.len) (c := s.cap) (news := l.flatMap fldV) (by rw [flatMap_len fl, hlen]) (fun j x hx => by
      have hj : j < l.length * 4 := by have := (List.getElem?_eq_some_iff.1 hx).1; rwa [flatMap_len fl] at this
      obtain ⟨v, hv⟩ := at_k (l := l) (k := j / 4) (by omega)
      obtain ⟨a, ha, _, _, _, _, c0, c1, c2, c3⟩ := fldAt h1 hv
      have h2 := flatMap_at fl hv (j % 4) (by omega)
      rw [show j / 4 * 4 + j % 4 = j by omega, hx] at h2
      refine ⟨a, ha, ?_⟩
      have e : a.add j = (a.add (j / 4 * 4)).add (j % 4) := by
        rw [Addr.add_add]; congr 1; omega
      rw [e]
      rcases (by omega : j % 4 = 0 ∨ j % 4 = 1 ∨ j % 4 = 2 ∨ j % 4 = 3) with e2 | e2 | e2 | e2 <;> rw [e2] at h2 ⊢ <;> simp [fldV] at h2 <;> subst h2 <;> assumption) (fun x hx => by
        obtain ⟨y, _, hy⟩ := List.mem_flatMap.1 hx
        simp [fldV] at hy
        rcases hy with rfl | rfl | rfl | rfl <;> rfl) (by show (0 + s.len) * (40 + 1) <= _; omega)
    rw [List.nil_append] at hrow
    refine ⟨t, w2, hr, t, rfl, hrow, fun b hb => ?_, hp1.andNew hf fun b hb => by simp [blkOf] at hb; omega⟩
    rcases hblk b hb with h | h
    · simp [blkOf] at h; omega
    · have := hp1.size; omega
theorem copied_c {g : Bool} {s : SV} {l : List Val} (h : RdV w s l) (hb : l.length <= 1000000) : Calls Tryz.prog 88 #[.agg #[.bool g, .slice s.a s.len s.cap]] w fun e w' => ∃ q : SV, e = .returned (.agg #[.bool g, .slice q.a q.len q.cap]) /\ NewV w w' q l /\ Pu w w' := by
  refine F88_calls _ _ w _ (alB fun w1 hp1 hb1 => alB fun w2 hp2 hb2 => dwE_intro fun w3 hp3 _ => ?_)
  have b1 := hp3.blk (hp2.blk hb1)
  have b2 := hp3.blk hb2
  have hp := (hp1.trans hp2).trans hp3
  have z1 := hp1.size
  have z2 := hp2.size
  have z3 := hp3.size
  refine ⟨fun u => Pu w3 u, Pu.refl _, _, fun u hu => cl0 (hu.blk b1), _, fun u hu => cl (hu.blk b1) 1, (cloneV_c (h.pu hp) hb).mono ?_⟩
  rintro e w4 ⟨q, rfl, hq, hp4⟩
  have l1 : w.heap.size < w1.heap.size := blk_lt hb1
  have l2 : w1.heap.size < w2.heap.size := blk_lt hb2
  refine ⟨q, rfl, hp4, stA_fill (hp4.blk b2) bs77.symm rfl rfl fun w5 hb5 hf5 hs5 => ⟨_, cl hb5 0, _, cl hb5 1, q, rfl, ?_, (hp.trans hp4).andNew hf5 fun i hi => by have hi : i = w1.heap.size := hi; omega⟩⟩
  exact (hq.fr hf5 fun i hi e => by have := hq.2 i hi; have e : i = w1.heap.size := e; omega).low (by omega)
structure RdRecs (w : World) (s : SV) (rs : List Rec) : Prop where
  len : s.len = rs.length
  get : ∀ i r, rs[i]? = some r -> ∃ a t, s.a = some a /\ w.cell? ((a.add (i * 2)).add 0) = some (.bool r.gone) /\ w.cell? ((a.add (i * 2)).add 1) = some (.slice t.a t.len t.cap) /\ RdV w t r.v
theorem RdRecs.pu {s : SV} {rs : List Rec} (h : RdRecs w s rs) (hp : Pu w w') : RdRecs w' s rs := ⟨h.len, fun i r hr => by
  obtain ⟨a, t, h1, h2, h3, h4⟩ := h.get i r hr
  exact ⟨a, t, h1, hp.cell h2, hp.cell h3, h4.pu hp⟩⟩
theorem RdRecs.of {s : SV} {rs : List Rec} (h : RdSl w s rs) : RdRecs w s rs := ⟨h.len, fun i r hr => by
  obtain ⟨a, t, h1, _, h2, h3, h4⟩ := recAt h hr
  exact ⟨a, t, h1, h3, h4, RdV.of h2⟩⟩
def RecsAt (w : World) : List HRec -> List Rec -> Prop
  | [], [] => True
  | h :: hs, r :: rs => (h.g = r.gone /\ RowAt w 28 3 h.s (r.v.flatMap valV)) /\ RecsAt w hs rs
  | _, _ => False
theorem RecsAt.fr {B : Nat -> Prop} (hf : Fr B w w') : ∀ {hs : List HRec} {rs : List Rec}, RecsAt w hs rs -> (∀ b ∈ vB hs, ¬ B b) -> RecsAt w' hs rs
  | [], [], _, _ => trivial
  | h :: hs, r :: rs, ⟨⟨h1, h2⟩, h3⟩, hn => ⟨⟨h1, h2.fr hf fun b hb => hn b (by rw [vB_cons]; exact List.mem_append_left _ hb)⟩, RecsAt.fr hf h3 fun b hb => hn b (by rw [vB_cons]; exact List.mem_append_right _ hb)⟩
theorem RecsAt.push {h : HRec} {r : Rec} : ∀ {hs : List HRec} {rs : List Rec}, RecsAt w hs rs -> h.g = r.gone -> RowAt w 28 3 h.s (r.v.flatMap valV) -> RecsAt w (hs ++ [h]) (rs ++ [r])
  | [], [], _, h1, h2 => ⟨⟨h1, h2⟩, trivial⟩
  | x :: hs, y :: rs, ⟨a, b⟩, h1, h2 => ⟨a, RecsAt.push b h1 h2⟩
theorem RecsAt.len : ∀ {hs : List HRec} {rs : List Rec}, RecsAt w hs rs -> hs.length = rs.length
  | [], [], _ => rfl
  | x :: hs, y :: rs, ⟨_, b⟩ => by simp [RecsAt.len b]
structure NewRecs (w0 w : World) (q : SV) (hs : List HRec) (rs : List Rec) : Prop where
  row : RowAt w 77 2 q (hs.flatMap recC)
  new : ∀ b ∈ blkOf q, w0.heap.size <= b
  recs : RecsAt w hs rs
  vnew : ∀ b ∈ vB hs, w0.heap.size <= b /\ b ∉ blkOf q
  nd : (vB hs).Nodup
theorem NewRecs.pu {w0 : World} {q : SV} {hs : List HRec} {rs : List Rec} (h : NewRecs w0 w q hs rs) (hp : Pu w w') : NewRecs w0 w' q hs rs := ⟨h.row.pu hp, h.new, h.recs.fr (Fr.pu hp : Fr (fun _ => False) w w') fun _ _ h => h, h.vnew, h.nd⟩
theorem blk_one (s : SV) : (blkOf s).Nodup := by unfold blkOf; split <;> simp
theorem vB_snoc (l : List HRec) (h : HRec) : vB (l ++ [h]) = vB l ++ blkOf h.s := by simp [vB]
theorem copiedAll_c {s : SV} {rs : List Rec} (h : RdRecs w s rs) (hb : rs.length <= 100000) (hv : ∀ r ∈ rs, r.v.length <= 1000000) : Calls Tryz.prog 40 #[.slice s.a s.len s.cap] w fun e w' => ∃ (q : SV) (hs : List HRec), e = .returned (.slice q.a q.len q.cap) /\ NewRecs w w' q hs rs /\ Pu w w' := by
  have hlen := h.len
  refine F40_calls s w _ ?_
  refine loopUp rs.length (fun k t w' => t.2 = (k : Int) /\ ∃ hs, NewRecs w w' t.1 hs (rs.take k) /\ Pu w w') ⟨rfl, [], ⟨RowAt.nil _ _ _, by simp [blkOf], trivial, by simp [vB], by simp [vB]⟩, Pu.refl _⟩ ?_
  rintro k J ⟨q, t⟩ w1 hk ⟨ht, hs, hq, hp1⟩ hJ
  obtain rfl : t = (k : Int) := ht
  dsimp only
  have hq : NewRecs w w1 q hs (rs.take k) := hq
  have hql := hq.row.len recC_len (by decide)
  have hhl := hq.recs.len
  have htl := List.length_take_le k rs
  refine Br.of (fun d1 => ?_) (fun d1 => ?_)
  · have hkn : k < rs.length := by have := dtrue d1; omega
    obtain ⟨r, hr⟩ := at_k hkn
    obtain ⟨a, t, ha, c0, c1, hV⟩ := (h.pu hp1).get k r hr
    refine ⟨a, ha, by omega, by omega, r.gone, by rw [Int.toNat_natCast]; exact c0, t, by rw [Int.toNat_natCast]; exact c1, ?_⟩
    refine alB fun w2 hp2 hb2 => stA_fill hb2 bs77.symm rfl rfl fun w3 hb3 hf3 hs3 => ?_
    have hp3 : Pu w1 w3 := hp2.andNew hf3 fun i hi => by rw [show i = _ from hi]; exact Nat.le_refl _
    refine ⟨_, cl hb3 0, _, cl hb3 1, (copied_c (hV.pu hp3) (hv r (List.mem_of_getElem? hr))).mono ?_⟩
    rintro e w4 ⟨s', rfl, hs', hp4⟩
    refine ⟨_, s', rfl, alB fun w5 hp5 hb5 => ?_⟩
    have z1 := hp1.size
    have z3 := hp3.size
    have z4 := hp4.size
    have z5 := hp5.size
    have hp15 := (hp3.trans hp4).trans hp5
    have hq5 := hq.pu hp15
    have hlt5 : ∀ b ∈ blkOf s', b < w4.heap.size := hs'.1.lt
    have hqlt : ∀ b ∈ blkOf q, b < w1.heap.size := hq.row.lt
    obtain ⟨q', w6, hra, hrow6, hf6, hblk6, _⟩ := row_append_any (P := Tryz.prog) (ty := 23) bu23 binfo77 rfl (by omega) hq5.row (A := some ⟨w4.heap.size, 0, none⟩) (m := 1) (c := 1) (news := [.bool r.gone, .slice s'.a s'.len s'.cap]) rfl (fun j x hx => ⟨_, rfl, by rw [cl hb5]; simpa using hx⟩) (fun x hx => by simp at hx; rcases hx with rfl | rfl <;> rfl) (by show (q.len + 1) * (32 + 1) <= _; omega)
    refine ⟨q', w6, hra, ?_⟩
    rw [wrap_in (by omega) (by omega)]
    refine hJ _ _ hkn ⟨by simp, hs ++ [⟨r.gone, s'⟩], ⟨?_, fun b hb => ?_, ?_, fun b hb => ?_, ?_⟩, (hp1.trans hp15).andNew hf6 fun b hb => hq.new b hb⟩
    · rw [List.flatMap_append, List.flatMap_singleton]; exact hrow6
    · rcases hblk6 b hb with h1 | h1
      · exact hq.new b h1
      · omega
    · rw [take_at hr]
      refine ((hq5.recs).fr hf6 fun b hb => (hq.vnew b hb).2).push rfl ((hs'.1.pu hp5).fr hf6 fun b hb hx => ?_)
      have := hs'.2 b hb
      have := hqlt b hx
      omega
    · rw [vB_snoc, List.mem_append] at hb
      have hq' : ∀ b, b ∈ blkOf q' -> b ∈ blkOf q ∨ w5.heap.size <= b := hblk6
      rcases hb with hb | hb
      · have h1 := hq.vnew b hb
        refine ⟨h1.1, fun hx => ?_⟩
        rcases hq' b hx with h2 | h2
        · exact h1.2 h2
        · have : b < w5.heap.size := by
            obtain ⟨y, hy, hyb⟩ := List.mem_flatMap.1 hb
            have hrec : ∀ (hs : List HRec) (rs : List Rec), RecsAt w5 hs rs -> ∀ y ∈ hs, ∀ b ∈ blkOf y.s, b < w5.heap.size := fun hs => by
              induction hs with
              | nil => intro rs _ y hy; cases hy
              | cons x hs ih => intro rs hR y hy b hb; cases rs with
                | nil => exact hR.elim
                | cons z rs =>
                  rcases List.mem_cons.1 hy with rfl | hy
                  · exact hR.1.2.lt b hb
                  · exact ih rs hR.2 y hy b hb
            exact hrec _ _ hq5.recs y hy b hyb
          omega
      · have h1 := hs'.2 b hb
        have h3 := hlt5 b hb
        refine ⟨by omega, fun hx => ?_⟩
        rcases hq' b hx with h2 | h2
        · have := hqlt b h2; omega
        · omega
    · rw [vB_snoc]
      refine List.nodup_append.2 ⟨hq.nd, blk_one _, fun a ha b hb e => ?_⟩
      subst e
      have h1 := hs'.2 a hb
      obtain ⟨y, hy, hyb⟩ := List.mem_flatMap.1 ha
      have hrec : ∀ (hs : List HRec) (rs : List Rec), RecsAt w1 hs rs -> ∀ y ∈ hs, ∀ b ∈ blkOf y.s, b < w1.heap.size := fun hs => by
        induction hs with
        | nil => intro rs _ y hy; cases hy
        | cons x hs ih => intro rs hR y hy b hb; cases rs with
          | nil => exact hR.elim
          | cons z rs =>
            rcases List.mem_cons.1 hy with rfl | hy
            · exact hR.1.2.lt b hb
            · exact ih rs hR.2 y hy b hb
      have := hrec _ _ hq.recs y hy a hyb
      omega
  · have hkn : k = rs.length := by have := dfalse d1; omega
    subst hkn
    rw [List.take_length] at hq
    exact ⟨q, hs, rfl, hq, hp1⟩
end Go.Proofs.YtcihcbfcgjepfaaGreatDoor

/- Desks: a record as a user sees it; a value of a record; the lock of a record. No condition but those stated. -/
set_option maxRecDepth 100000
set_option linter.unusedVariables false
set_option linter.unusedSimpArgs false
namespace Go.Proofs.YtcihcbfcgjepfaaGreatDoor
open Go.Sh Go.RowKit
variable {w w' : World} {d d' : DLay} {val : Nat -> List Val} {mu : Int}
theorem DeskAt.page (h : DeskAt w d mu val) : w.cell? ((⟨d.S, 0, none⟩ : Addr).add 2) = some (.int .i64 d.page) := by rw [h.cellA]; rfl
theorem DeskAt.flds (h : DeskAt w d mu val) : w.cell? (((⟨d.S, 0, none⟩ : Addr).add 2).add 1) = some (.slice d.fs.a d.fs.len d.fs.cap) := by rw [add_def, add_def, h.cell]; rfl
theorem DeskAt.recs (h : DeskAt w d mu val) : w.cell? (((⟨d.S, 0, none⟩ : Addr).add 2).add 2) = some (.slice d.rs.a d.rs.len d.rs.cap) := by rw [add_def, add_def, h.cell]; rfl
theorem DeskAt.locks (h : DeskAt w d mu val) : w.cell? ((⟨d.S, 0, none⟩ : Addr).add 21) = some (.map (some d.L)) := by rw [h.cellA]; rfl
theorem DeskAt.uMode (h : DeskAt w d mu val) {u : Nat} (hu : u < 4) : w.cell? (uA d u) = some (.int .i64 (d.mode u)) := by
  have := h.cellU hu 0
  rw [add0] at this
  rw [this]; exact desk_mode hu
theorem DeskAt.uAt (h : DeskAt w d mu val) {u : Nat} (hu : u < 4) : w.cell? ((uA d u).add 1) = some (.int .i64 (d.at_ u)) := by rw [h.cellU hu]; exact desk_at hu
theorem DeskAt.uCh (h : DeskAt w d mu val) {u : Nat} (hu : u < 4) : w.cell? ((uA d u).add 2) = some (.map (some (d.C u))) := by rw [h.cellU hu]; exact desk_C hu
theorem DeskAt.uAp (h : DeskAt w d mu val) {u : Nat} (hu : u < 4) : w.cell? ((uA d u).add 3) = some (.slice (d.asv u).a (d.asv u).len (d.asv u).cap) := by rw [h.cellU hu]; exact desk_as hu
theorem DeskAt.rs_len (h : DeskAt w d mu val) : d.rs.len = d.rh.length := h.bd.rw_.len recC_len (by decide)
theorem keysK : Keys Tryz.prog 3 intK := keys_int (q := .i64) (by kernel_rfl)
def h0 : HRec := ⟨false, ⟨none, 0, 0⟩⟩
def recV (h : HRec) : Value := .agg #[.bool h.g, .slice h.s.a h.s.len h.s.cap]
def chG (l : List Chg) (k : Int) : HRec × HRec := (AL.get l k).getD (h0, h0)
theorem ch_look {b : Nat} {l : List Chg} (h : MapAt w intK chV b l) (k : Int) : (Instr.lookup 88 (.map (some b)) (.int .i64 k) true).run Tryz.prog w = .ok (.tuple #[chV (chG l k), .bool (AL.get l k).isSome]) w := by
  have := h.look (P := Tryz.prog) (t := 88) (kt := 3) (e := 133) keysK bu88 (z := .agg #[.bool false, .slice none 0 0, .bool false, .slice none 0 0]) (Tryz.zeroValue133 w) k true
  rw [show (.int .i64 k : Value) = intK k from rfl, this]
  unfold chG
  cases AL.get l k <;> rfl
theorem lk_look {b : Nat} {l : List (Int × Int)} (h : MapAt w intK intK b l) (k : Int) : (Instr.lookup 80 (.map (some b)) (.int .i64 k) true).run Tryz.prog w = .ok (.tuple #[.int .i64 ((AL.get l k).getD 0), .bool (AL.get l k).isSome]) w := by
  have := h.look (P := Tryz.prog) (t := 80) (kt := 3) (e := 3) keysK bu80 (z := .int .i64 0) (Tryz.zeroValue3 w) k true
  rw [show (.int .i64 k : Value) = intK k from rfl, this]
  cases AL.get l k <;> rfl
theorem get_map (val : Nat -> List Val) : ∀ (l : List Chg) (k : Int), AL.get (l.map (toC val)) k = (AL.get l k).map fun c => (toR val c.1, toR val c.2)
  | [], k => rfl
  | (a, b) :: l, k => by
    simp only [List.map_cons, toC, AL.get]
    by_cases e : a = k
    · simp [e]
    · simp only [e, if_false]; exact get_map val l k
def seenH (d : DLay) (u : Nat) (k : Int) : Option HRec := if k < 0 then (d.ah u)[(-k - 1).toNat]? else if k < 1 ∨ k > d.rh.length then none else match AL.get (d.ch u) k with
  | some c => some c.2
  | none => d.rh[(k - 1).toNat]?
theorem seenH_abs (d : DLay) (val : Nat -> List Val) (u : Nat) (k : Int) : (seenH d u k).map (toR val) = seenR (absD d val) u k := by
  unfold seenH seenR
  have e1 : ((absD d val).us u).ap = (d.ah u).map (toR val) := rfl
  have e2 : ((absD d val).us u).ch = (d.ch u).map (toC val) := rfl
  have e3 : (absD d val).recs = d.rh.map (toR val) := rfl
  rw [e1, e2, e3, get_map, List.length_map]
  split
  · rw [List.getElem?_map]
  · split
    · rfl
    · cases AL.get (d.ch u) k with
      | none => simp [List.getElem?_map]
      | some c => rfl
theorem seen_c (h : DeskAt w d mu val) {u : Nat} (hu : u < 4) (k : Int) (ha : (d.ah u).length <= 1000000) (hr : d.rh.length <= 1000000) :
    Calls Tryz.prog 49 #[d.ptr, .pointer (some (uA d u)), .int .i64 k] w fun e w' => e = .returned (.tuple #[recV ((seenH d u k).getD h0), .bool (seenH d u k).isSome]) /\ Pu w w' := by
  refine F49_calls _ _ k w _ (alB fun w1 hp1 hb1 => ?_)
  have h1 := h.pu hp1
  have hal := h.as_len hu
  have hrl := h.rs_len
  have fin : ∀ {w2 : World} (x : HRec) (b : Bool), Pu w1 w2 -> ((seenH d u k).getD h0 = x /\ (seenH d u k).isSome = b) -> stA Tryz.prog 77 ⟨w.heap.size, 0, none⟩ #[.bool x.g, .slice x.s.a x.s.len x.s.cap] w2 fun w3 => ∃ bR0_0 : Bool, w3.cell? ((⟨w.heap.size, 0, none⟩ : Addr).add 0) = some (.bool bR0_0) /\
      ∃ lR0_1 : SV, w3.cell? ((⟨w.heap.size, 0, none⟩ : Addr).add 1) = some (.slice lR0_1.a lR0_1.len lR0_1.cap) /\ (Ending.returned (.tuple #[.agg #[.bool bR0_0, .slice lR0_1.a lR0_1.len lR0_1.cap], .bool b]) = .returned (.tuple #[recV ((seenH d u k).getD h0), .bool (seenH d u k).isSome]) /\ Pu w w3) := fun {w2} x b hp hx =>
    stA_fill (hp.blk hb1) bs77.symm rfl rfl fun w3 hb3 hf3 _ => ⟨_, cl hb3 0, _, cl hb3 1, by rw [hx.1, hx.2]; rfl, (hp1.trans hp).andNew hf3 fun i hi => by rw [show i = w.heap.size from hi]; exact Nat.le_refl _⟩
  refine Br.of (fun c => ?_) (fun c => ?_)
  · have c := dtrue c
    refine ⟨d.asv u, h1.uAp hu, ?_⟩
    rw [wrap_in (by omega) (by omega)]
    refine Br.of (fun c2 => ?_) (fun c2 => ?_)
    · have c2 := dtrue c2
      have hlt : (-k - 1).toNat < (d.ah u).length := by omega
      obtain ⟨x, hx⟩ := at_k hlt
      obtain ⟨a, ea, _, g0⟩ := (h1.bd.aw u hu).elem recC_len hx (o := 0) (v := .bool x.g) rfl
      obtain ⟨a', ea', _, g1⟩ := (h1.bd.aw u hu).elem recC_len hx (o := 1) (v := .slice x.s.a x.s.len x.s.cap) rfl
      obtain rfl : a = a' := by rw [ea] at ea'; exact Option.some.inj ea'
      have ew : IntKind.i64.wrap ((IntKind.i64.wrap (0 - k)) - 1) = -k - 1 := by rw [wrap_in (n := 0 - k) (by omega) (by omega), wrap_in (by omega) (by omega)]; omega
      refine ⟨d.asv u, h1.uAp hu, a, ea, ?_⟩
      rw [ew]
      refine ⟨by omega, by omega, x.g, g0, x.s, g1, fin x true (Pu.refl _) ?_⟩
      have : seenH d u k = some x := by rw [seenH, if_pos c, hx]
      rw [this]; exact ⟨rfl, rfl⟩
    · have c2 := dfalse c2
      have hn : seenH d u k = none := by rw [seenH, if_pos c, List.getElem?_eq_none]; omega
      refine Br.of (fun _ => fin h0 false (Pu.refl _) (by rw [hn]; exact ⟨rfl, rfl⟩)) (fun c3 => ?_)
      have := dfalse c3; omega
  · have c := dfalse c
    refine Br.of (fun c1 => ?_) (fun c1 => ?_)
    · have c1 := dtrue c1
      exact fin h0 false (Pu.refl _) (by rw [seenH, if_neg c, if_pos (.inl c1)]; exact ⟨rfl, rfl⟩)
    have c1 := dfalse c1
    refine ⟨d.rs, h1.recs, Br.of (fun c2 => ?_) (fun c2 => ?_)⟩
    · have c2 := dtrue c2
      exact fin h0 false (Pu.refl _) (by rw [seenH, if_neg c, if_pos (.inr (by omega))]; exact ⟨rfl, rfl⟩)
    have c2 := dfalse c2
    have hx : seenH d u k = match AL.get (d.ch u) k with | some c => some c.2 | none => d.rh[(k - 1).toNat]? := by rw [seenH, if_neg c, if_neg (by omega)]
    refine ⟨some (d.C u), h1.uCh hu, _, (chG (d.ch u) k).1.s, _, (chG (d.ch u) k).2.s, _, w1, ch_look (h1.mp hu) k, alB fun w2 hp2 hb2 => stA_fill hb2 bs133.symm rfl rfl fun w3 hb3 hf3 _ => ?_⟩
    have hp3 : Pu w1 w3 := hp2.andNew hf3 fun i hi => by rw [show i = w1.heap.size from hi]; exact Nat.le_refl _
    have h3 := h1.pu hp3
    refine Br.of (fun c4 => ?_) (fun c4 => ?_)
    · obtain ⟨c, hc⟩ := Option.isSome_iff_exists.1 c4
      rw [hc] at hx
      have eg : chG (d.ch u) k = c := by rw [chG, hc]; rfl
      rw [eg] at hb3
      refine ⟨c.2.g, ?_, c.2.s, ?_, fin c.2 true hp3 (by rw [hx]; exact ⟨rfl, rfl⟩)⟩
      · rw [add_def, add_def, cell_blk hb3]; rfl
      · rw [add_def, add_def, cell_blk hb3]; rfl
    · have hc : AL.get (d.ch u) k = none := by simpa using c4
      rw [hc] at hx
      have hlt : (k - 1).toNat < d.rh.length := by omega
      obtain ⟨x, hxx⟩ := at_k hlt
      rw [hxx] at hx
      obtain ⟨a, ea, _, g0⟩ := h3.bd.rw_.elem recC_len hxx (o := 0) (v := .bool x.g) rfl
      obtain ⟨a', ea', _, g1⟩ := h3.bd.rw_.elem recC_len hxx (o := 1) (v := .slice x.s.a x.s.len x.s.cap) rfl
      obtain rfl : a = a' := by rw [ea] at ea'; exact Option.some.inj ea'
      refine ⟨d.rs, h3.recs, a, ea, ?_⟩
      rw [wrap_in (by omega) (by omega)]
      exact ⟨by omega, by omega, x.g, g0, x.s, g1, fin x true hp3 (by rw [hx]; exact ⟨rfl, rfl⟩)⟩
end Go.Proofs.YtcihcbfcgjepfaaGreatDoor

/- Desks: fields, read; a value of a record. No condition but those stated. -/
set_option maxRecDepth 100000
set_option linter.unusedVariables false
set_option linter.unusedSimpArgs false
namespace Go.Proofs.YtcihcbfcgjepfaaGreatDoor
open Go.Sh Go.RowKit
variable {w w' : World} {d d' : DLay} {val : Nat -> List Val} {mu : Int}
theorem fldV_len (f : Fld) : (fldV f).length = 4 := rfl
theorem fld_rd {s : SV} {l : List Fld} (h : RowAt w 38 4 s (l.flatMap fldV)) (hb : l.all fieldB = true) (hn : l.length <= 16) : RdSl w s l := by
  have hl := h.len fldV_len (by decide)
  refine ⟨hl, h.le_cap.1, by omega, fun i f hf => ?_⟩
  have hB := fieldB_lim (List.all_eq_true.1 hb f (List.mem_of_getElem? hf))
  obtain ⟨a, ha, _, _⟩ := h.elem fldV_len hf (o := 0) rfl
  refine ⟨a, ha, fldV f, ⟨rfl, hB.1, hB.2.1⟩, fun j v hv => ?_⟩
  obtain ⟨a', ha', _, hc⟩ := h.elem fldV_len hf (o := j) hv
  rw [ha] at ha'; cases ha'
  exact hc
theorem DeskAt.fld (h : DeskAt w d mu val) (hv : validF d.flds = 0) : RdSl w d.fs d.flds := fld_rd h.bd.fl (validF_parts hv).2.1 (validF_parts hv).2.2
theorem DeskAt.vals (h : DeskAt w d mu val) {x : HRec} (hx : x ∈ allH d) (hl : (hv val x).length <= 1000000) : RdV w x.s (hv val x) := NewV.rd (w0 := { w with heap := #[] }) ⟨h.bd.vr x hx, fun _ _ => Nat.zero_le _⟩ (by omega)
theorem idxN_lt {l : List Fld} {s : ByteArray} {i : Nat} (h : idxN l s = some i) : i < l.length := by
  unfold idxN at h
  obtain ⟨h1, _⟩ := List.findIdx?_eq_some_iff_getElem.1 h
  exact h1
theorem value_c (h : DeskAt w d mu val) (hvf : validF d.flds = 0) {g b : Bool} {s : SV} {l : List Val} (hs : b = true -> RdV w s l /\ l.length = d.flds.length) (field : ByteArray) :
    Calls Tryz.prog 56 #[d.ptr, .agg #[.bool g, .slice s.a s.len s.cap], .bool b, .string field] w fun e w' =>
      e = .returned (.tuple #[valA (valueR (absD d val) (if b then some ⟨g, l⟩ else none) field).1, .int .i64 (valueR (absD d val) (if b then some ⟨g, l⟩ else none) field).2]) /\ Pu w w' := by
  refine F56_calls _ _ _ _ _ w _ (alB fun w1 hp1 hb1 => alB fun w2 hp2 hb2 => ?_)
  have hp02 := hp1.trans hp2
  have h2 := h.pu hp02
  refine ⟨d.fs, h2.flds, (index_c (h2.fld hvf) field).mono ?_⟩
  rintro e w4 ⟨rfl, hp4⟩
  have hp04 := hp02.trans hp4
  have hb4 := hp4.blk hb2
  have z1 := hp1.size
  have z2 := hp2.size
  have e0 : (absD d val).flds = d.flds := rfl
  have fin : ∀ (v : Val) (n : Int), valueR (absD d val) (if b then some ⟨g, l⟩ else none) field = (v, n) -> stA Tryz.prog 28 ⟨w1.heap.size, 0, none⟩ #[.int .i64 v.kind, .int .i64 v.n, .string v.s] w4 fun w5 =>
      ∃ nR0_0 : Int, w5.cell? ((⟨w1.heap.size, 0, none⟩ : Addr).add 0) = some (.int .i64 nR0_0) /\ ∃ nR0_1 : Int, w5.cell? ((⟨w1.heap.size, 0, none⟩ : Addr).add 1) = some (.int .i64 nR0_1) /\ ∃ sR0_2 : ByteArray, w5.cell? ((⟨w1.heap.size, 0, none⟩ : Addr).add 2) = some (.string sR0_2) /\
      (Ending.returned (.tuple #[.agg #[.int .i64 nR0_0, .int .i64 nR0_1, .string sR0_2], .int .i64 n]) = .returned (.tuple #[valA (valueR (absD d val) (if b then some ⟨g, l⟩ else none) field).1, .int .i64 (valueR (absD d val) (if b then some ⟨g, l⟩ else none) field).2]) /\ Pu w w5) := fun v n hv =>
    stA_fill hb4 bs28.symm rfl rfl fun w5 hb5 hf5 _ => ⟨_, cl hb5 0, _, cl hb5 1, _, cl hb5 2, by rw [hv], hp04.andNew hf5 fun i hi => by rw [show i = w1.heap.size from hi]; omega⟩
  refine ⟨_, _, rfl, Br.of (fun c => ?_) (fun c => ?_)⟩
  · have c : b = false := by simpa using c
    refine fin noV 4 ?_
    rw [c]; rfl
  have c : b = true := by simpa using c
  obtain ⟨hV, hlen⟩ := hs c
  refine Br.of (fun c1 => ?_) (fun c1 => ?_)
  · refine fin noV 4 ?_
    have c1 : idxN d.flds field = none := by simpa using c1
    simp only [c, if_true, valueR, e0, c1]
  · have c1 : (idxN d.flds field).isSome = true := by simpa using c1
    obtain ⟨i, hi⟩ := Option.isSome_iff_exists.1 c1
    have hil : i < l.length := by rw [hlen]; exact idxN_lt hi
    obtain ⟨v, hv⟩ := at_k hil
    have eK : idxK d.flds field = (i : Int) := by rw [idxK, hi]; rfl
    obtain ⟨a, ha, c0, c1, c2⟩ := (hV.pu hp04).get i v hv
    have hb14 := hp4.blk (hp2.blk hb1)
    have hsl := hV.len
    rw [eK]
    refine ⟨s, cl hb14 1, a, ha, by omega, by omega, v.kind, c0, v.n, c1, v.s, c2, fin v 0 ?_⟩
    simp only [c, if_true, valueR, e0, hi]
    rw [List.getD_eq_getElem?_getD, hv]; rfl
end Go.Proofs.YtcihcbfcgjepfaaGreatDoor

/- Desks: what looks at values: Get, Old, Now, Locked. No condition but those stated. -/
set_option maxRecDepth 100000
set_option linter.unusedVariables false
set_option linter.unusedSimpArgs false
namespace Go.Proofs.YtcihcbfcgjepfaaGreatDoor
open Go.Sh Go.RowKit
variable {w w' : World} {d d' : DLay} {val : Nat -> List Val} {mu : Int}
theorem BodyAt.out (h : BodyAt w d val) {r : Nat} (hr : w.heap.size <= r) : d.o r = none := by
  cases e : d.o r with
  | none => rfl
  | some κ =>
    have := h.lt r (by rw [e]; simp)
    omega
structure Held (w w2 : World) (d : DLay) (val : Nat -> List Val) : Prop where
  at_ : DeskAt w2 d 1 val
  fr : Fr (fun b => d.o b ≠ none) w w2
theorem Held.pu {w3 : World} (h : Held w w' d val) (hp : Pu w' w3) : Held w w3 d val := ⟨h.at_.pu hp, h.fr.trans (Fr.pu hp : Fr (fun b => d.o b ≠ none) w' w3) fun i hi _ => hi⟩
theorem Held.left (h : Held w w' d val) {K : World -> Prop} (hK : ∀ w3, DLeft w w3 d d 0 val -> Fr (· = d.S) w' w3 -> w3.heap.size = w'.heap.size -> K w3) : runD Tryz.prog [leaveD d] w' K :=
  leave_c h.at_ fun w3 h3 hf hs => hK w3 ⟨h3, h.fr.trans hf fun i hi _ => by rw [show i = d.S from hi, h.at_.bd.oS]; simp, fun _ h => .inl h, rfl⟩ hf hs
theorem enter_held (h : DeskAt w d 0 val) {w1 : World} (hp : Pu w w1) (u : Int) :
    Calls Tryz.prog 47 #[d.ptr, .int .i64 u] w1 fun e w' => e = .returned (.tuple #[uV d u, leaveV d, .int .i64 (uC u)]) /\ Held w w' d val /\ Fr (· = d.S) w1 w' /\ w'.heap.size = w1.heap.size := by
  refine (enter_c (h.pu hp) u).mono ?_
  rintro e w2 ⟨he, h2, hf, hs⟩
  exact ⟨he, ⟨h2, (Fr.pu hp : Fr (fun b => d.o b ≠ none) w w1).trans hf fun i hi _ => by rw [show i = d.S from hi, h.bd.oS]; simp⟩, hf, hs⟩
theorem retVal (h : DeskAt w d 0 val) {r : Nat} (hr : w.heap.size <= r) {w2 : World} (h2 : Held w w2 d val) {c : Array Value} (hc : c.size = 3) (hb : w2.heap[r]? = some (.cells c 28)) (v : Val) (n : Int) {x : Val × Int} (hx : x = (v, n)) :
    stA Tryz.prog 28 ⟨r, 0, none⟩ #[.int .i64 v.kind, .int .i64 v.n, .string v.s] w2 fun w3 => runD Tryz.prog [leaveD d] w3 fun w4 => ∃ n0 : Int, w4.cell? ((⟨r, 0, none⟩ : Addr).add 0) = some (.int .i64 n0) /\
      ∃ n1 : Int, w4.cell? ((⟨r, 0, none⟩ : Addr).add 1) = some (.int .i64 n1) /\ ∃ s2 : ByteArray, w4.cell? ((⟨r, 0, none⟩ : Addr).add 2) = some (.string s2) /\ (Ending.returned (.tuple #[.agg #[.int .i64 n0, .int .i64 n1, .string s2], .int .i64 n]) = .returned (.tuple #[valA x.1, .int .i64 x.2]) /\ DLeft w w4 d d 0 val) := by
  have ho : d.o r = none := h.bd.out hr
  refine stA_fill hb bs28.symm hc rfl fun w3 hb3 hf3 hs3 => ?_
  have h3 : Held w w3 d val := ⟨h2.at_.fr hf3 fun b hb e => by rw [show b = r from e] at hb; exact hb ho, h2.fr.trans hf3 fun i hi hlt => by have hi : i = r := hi; omega⟩
  refine h3.left fun w4 hL hf4 _ => ?_
  have hb4 := hf4.blk hb3 (fun e => by rw [show r = d.S from e, h.bd.oS] at ho; cases ho)
  exact ⟨_, cl hb4 0, _, cl hb4 1, _, cl hb4 2, by rw [hx], hL⟩
theorem Inv.rh (h : Inv (absD d val)) : d.rh.length <= 300 := by have := h.r300; simpa [absD] using this
theorem Inv.ah (h : Inv (absD d val)) {u : Nat} (hu : u < 4) : (d.ah u).length <= 300 := by have := h.a300 hu; rwa [ah_len] at this
theorem Inv.good (h : Inv (absD d val)) {x : HRec} (hx : x ∈ allH d) (hl : Low d) : validR d.flds d.page (toR val x) = 0 := by
  have key : ∀ u, u < 4 -> x ∈ uH d u -> validR d.flds d.page (toR val x) = 0 := fun u hu hx => by
    rcases List.mem_append.1 hx with hx | hx
    · obtain ⟨c, hc, hx⟩ := List.mem_flatMap.1 hx
      have := (h.gc u hu (toC val c) (List.mem_map.2 ⟨c, hc, rfl⟩)).1
      simp at hx
      rcases hx with rfl | rfl
      · exact this.1
      · exact this.2
    · exact h.ga u hu _ (List.mem_map.2 ⟨x, hx, rfl⟩)
  unfold allH at hx
  simp only [List.mem_append] at hx
  rcases hx with hx | hx | hx | hx | hx
  · exact h.gr _ (List.mem_map.2 ⟨x, hx, rfl⟩)
  · exact key 0 (by omega) hx
  · exact key 1 (by omega) hx
  · exact key 2 (by omega) hx
  · exact key 3 (by omega) hx
theorem DeskAt.read (h : DeskAt w d mu val) (hI : Inv (absD d val)) {x : HRec} (hx : x ∈ allH d) : RdV w x.s (hv val x) /\ (hv val x).length = d.flds.length := by
  have h1 : (hv val x).length = d.flds.length := validR_right (hI.good hx h.bd.low)
  have h2 : d.flds.length <= 16 := hI.f16
  exact ⟨h.vals hx (by omega), h1⟩
theorem now_c (h : DeskAt w d 0 val) (hI : Inv (absD d val)) (k : Int) (field : ByteArray) :
    Calls Tryz.prog 18 #[d.ptr, .int .i64 k, .string field] w fun e w' => e = .returned (.tuple #[valA (nowR k field (absD d val)).1, .int .i64 (nowR k field (absD d val)).2]) /\ DLeft w w' d d 0 val := by
  refine F18_calls _ k field w _ (alB fun w1 hp1 hb1 => (enter_held h hp1 0).mono ?_)
  rintro e w2 ⟨rfl, h2, hf2, hs2⟩
  have z1 := hp1.size
  have ho : d.o w.heap.size = none := h.bd.out (Nat.le_refl _)
  have nS : ¬ w.heap.size = d.S := fun e => by rw [e, h.bd.oS] at ho; cases ho
  have hb2 := hf2.blk hb1 nS
  have el : (absD d val).recs.length = d.rh.length := by simp [absD]
  have hrl := h2.at_.rs_len
  have h300 := hI.rh
  refine ⟨_, _, _, rfl, ?_⟩
  refine Br.of (fun c1 => ?_) (fun c1 => ?_)
  rotate_left
  refine ⟨d.rs, h2.at_.recs, ?_⟩
  refine Br.of (fun c2 => ?_) (fun c2 => ?_)
  rotate_left 2
  · have c1 := dtrue c1
    have e2 : nowR k field (absD d val) = (noV, 4) := by rw [nowR, if_pos (.inl c1)]
    exact retVal h (Nat.le_refl _) h2 rfl hb2 noV 4 e2
  · have c2 := dtrue c2
    have e2 : nowR k field (absD d val) = (noV, 4) := by rw [nowR, if_pos (.inr (by omega))]
    exact retVal h (Nat.le_refl _) h2 rfl hb2 noV 4 e2
  · have c1 := dfalse c1
    have c2 := dfalse c2
    have hlt : (k - 1).toNat < d.rh.length := by omega
    obtain ⟨x, hx⟩ := at_k hlt
    obtain ⟨a, ea, _, g0⟩ := h2.at_.bd.rw_.elem recC_len hx (o := 0) (v := .bool x.g) rfl
    obtain ⟨a', ea', _, g1⟩ := h2.at_.bd.rw_.elem recC_len hx (o := 1) (v := .slice x.s.a x.s.len x.s.cap) rfl
    obtain rfl : a = a' := by rw [ea] at ea'; exact Option.some.inj ea'
    refine ⟨d.rs, h2.at_.recs, a, ea, ?_⟩
    rw [wrap_in (by omega) (by omega)]
    refine ⟨by omega, by omega, x.g, g0, x.s, g1, (value_c h2.at_ hI.vf (l := hv val x) (fun _ => h2.at_.read hI (mem_rh (List.mem_of_getElem? hx))) field).mono ?_⟩
    rintro e w8 ⟨rfl, hp8⟩
    have e2 : nowR k field (absD d val) = valueR (absD d val) (if true then some ⟨x.g, hv val x⟩ else none) field := by
      rw [nowR, if_neg (by omega), recK]
      have : (absD d val).recs.getD (k - 1).toNat default = toR val x := by
        show (d.rh.map (toR val)).getD _ _ = _
        rw [List.getD_eq_getElem?_getD, List.getElem?_map, hx]; rfl
      rw [this]; rfl
    refine ⟨_, _, _, _, rfl, ?_⟩
    exact retVal h (Nat.le_refl _) (h2.pu hp8) rfl (hp8.blk hb2) _ _ e2
end Go.Proofs.YtcihcbfcgjepfaaGreatDoor
