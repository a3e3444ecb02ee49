import Derived.Test.YtnigfiljenfgjaaGreatDzOwG
import Derived.Test.YtnigfiljenfgjaaGreatDzPrA
import Derived.Shelf.SlSortCmp.InsertionK
import Derived.Test.YtnigfiljenfgjaaGreatShTwentyThree
import Derived.ChangeKeysEq
import Derived.Shelf.SlMaps.Clone
import Derived.Test.YtnigfiljenfgjaaGreatProg
import Derived.Shelf.SlLaysF0
import Derived.Shelf.SlSortCmp.WholeK
import Derived.Shelf.SlSortCmp.NoneTotal
import Derived.Sort.OwnSortedInts
/- The disk: sizes and falls are alike. -/
set_option maxRecDepth 100000
set_option linter.unusedVariables false
set_option linter.unusedSimpArgs false
namespace Go.Proofs.YtnigfiljenfgjaaGreat
open Go.Sh Go.RowKit
variable {N : Nat} {σ : Sys} {ρ ρ' : RSys}
theorem shorts_at (σ : Sys) (name : ByteArray) (n : Nat) : ∀ k, (shorts σ name n k).files = σ.files /\ (shorts σ name n k).locks = σ.locks /\ ∀ v, (shorts σ name n k).caches v = if v < k then (σ.caches v).filterMap (shortA n name) else σ.caches v
  | 0 => ⟨rfl, rfl, fun v => rfl⟩
  | k + 1 => by
    obtain ⟨h1, h2, h3⟩ := shorts_at σ name n k
    refine ⟨h1, h2, fun v => ?_⟩
    show (if v = k then ((shorts σ name n k).caches k).filterMap (shortA n name) else (shorts σ name n k).caches v) = _
    by_cases e : v = k
    · subst e; rw [if_pos rfl, if_pos (by omega), h3, if_neg (by omega)]
    · rw [if_neg e, h3]
      by_cases e2 : v < k
      · rw [if_pos e2, if_pos (by omega)]
      · rw [if_neg e2, if_neg (by omega)]
theorem fm_get {F : Place × Page -> Option (Place × Page)} (hF : ∀ q r, F q = some r -> r.1 = q.1) : ∀ {l : List (Place × Page)} (k : Place), (l.map Prod.fst).Nodup -> AL.get (l.filterMap F) k = (AL.get l k).bind fun v => (F (k, v)).map Prod.snd
  | [], k, _ => rfl
  | (a, b) :: l, k, hn => by
    simp only [List.map_cons, List.nodup_cons] at hn
    have ih := fm_get hF (l := l) k hn.2
    simp only [AL.get]
    by_cases e : a = k
    · rw [if_pos e]
      subst e
      cases hr : F (a, b) with
      | none =>
        rw [List.filterMap_cons_none hr, ih, AL.get_none.2 hn.1]
        simp [hr]
      | some r =>
        rw [List.filterMap_cons_some hr]
        obtain ⟨r1, r2⟩ := r
        have := hF _ _ hr
        simp only at this
        simp [AL.get, this, hr]
    · rw [if_neg e]
      cases hr : F (a, b) with
      | none => rw [List.filterMap_cons_none hr]; exact ih
      | some r =>
        rw [List.filterMap_cons_some hr]
        obtain ⟨r1, r2⟩ := r
        have := hF _ _ hr
        simp only at this
        simp only [AL.get, this, if_neg e]
        exact ih
theorem short_get {u : Nat} (hn : ((σ.caches u).map Prod.fst).Nodup) (m : Nat) (name x : ByteArray) (kk : Nat) : AL.get ((σ.caches u).filterMap (shortA m name)) (x, (kk : Int)) =
    (AL.get (σ.caches u) (x, (kk : Int))).bind fun pg => if x ≠ name ∨ (kk + 1) * 32 <= m then some pg else if kk * 32 ≥ m then none else some (shortPg (m - kk * 32) 32 pg) := by
  rw [fm_get (fun q r h => shortA_key h) _ hn]
  cases AL.get (σ.caches u) (x, (kk : Int)) with
  | none => rfl
  | some pg =>
    simp only [Option.bind_some, shortA]
    by_cases c1 : x ≠ name ∨ (kk + 1) * 32 <= m
    · rw [if_pos (show x ≠ name ∨ ((kk : Int) + 1) * 32 <= (m : Int) from c1.imp id fun h => by omega), if_pos c1]; rfl
    · rw [if_neg (show ¬ (x ≠ name ∨ ((kk : Int) + 1) * 32 <= (m : Int)) from fun h => c1 (h.imp id fun h => by omega)), if_neg c1]
      by_cases c2 : kk * 32 ≥ m
      · rw [if_pos (show (kk : Int) * 32 ≥ (m : Int) by omega), if_pos c2]; rfl
      · rw [if_neg (show ¬ (kk : Int) * 32 ≥ (m : Int) by omega), if_neg c2, Int.toNat_natCast]; rfl
theorem Ok.resize (h : Ok N σ ρ) (hrn : (ρ.files.map Prod.fst).Nodup) (hcn : ∀ u, u < 4 -> ((ρ.caches u).map Prod.fst).Nodup) (hσn : ∀ u, u < 4 -> ((σ.caches u).map Prod.fst).Nodup) (name : ByteArray) (n : Int) : resizeC name n σ = rResizeC name n ρ /\ Ok N (resizeS name n σ) (rResizeS name n ρ) := by
  have hC : resizeC name n σ = rResizeC name n ρ := by
    unfold resizeC rResizeC
    rw [h.sim.ask]
    by_cases h0 : rAsk name ρ = 0
    · rw [if_pos h0, if_neg (show ¬ rAsk name ρ ≠ 0 from fun h => h h0)]
    · rw [if_neg h0, if_pos h0]
  refine ⟨hC, ?_⟩
  unfold resizeS rResizeS
  rw [hC]
  by_cases h0 : rResizeC name n ρ = 0
  · rw [if_pos h0, if_pos h0]
    have ha : rAsk name ρ = 0 /\ 0 <= n /\ n <= 65536 := by
      unfold rResizeC at h0
      by_cases h1 : rAsk name ρ = 0
      · rw [if_neg (show ¬ rAsk name ρ ≠ 0 from fun h => h h1)] at h0
        refine ⟨h1, ?_⟩
        by_cases c1 : n < 0
        · rw [if_pos c1] at h0; cases h0
        · rw [if_neg c1] at h0
          by_cases c2 : n > 65536
          · rw [if_pos c2] at h0; cases h0
          · omega
      · rw [if_pos h1] at h0; exact absurd h0 h1
    obtain ⟨ha, hn0, hn1⟩ := ha
    obtain ⟨m, rfl⟩ := Int.eq_ofNat_of_zero_le hn0
    obtain ⟨b, hb⟩ := rAsk_zero ha
    have hbs : AL.get σ.files name = some b := by rw [h.sim.fg]; exact hb
    rw [Int.toNat_natCast, h.sim.file, hb]
    simp only [Option.getD_some]
    obtain ⟨s1, s2, s3⟩ := shorts_at { σ with files := AL.put σ.files name (sized b m) } name m 4
    generalize shorts { σ with files := AL.put σ.files name (sized b m) } name m 4 = σ' at s1 s2 s3
    have hca : ∀ u, u < 4 -> σ'.caches u = (σ.caches u).filterMap (shortA m name) := fun u hu => by rw [s3, if_pos hu]
    have hsg : ∀ u, u < 4 -> ∀ x (kk : Nat), AL.get (σ'.caches u) (x, (kk : Int)) = (AL.get (σ.caches u) (x, (kk : Int))).bind fun pg => if x ≠ name ∨ (kk + 1) * 32 <= m then some pg else if kk * 32 ≥ m then none else some (shortPg (m - kk * 32) 32 pg) := fun u hu x kk => by rw [hca u hu, short_get (hσn u hu)]
    have hsx : ∀ u, u < 4 -> ∀ x (kk : Nat), x ≠ name -> AL.get (σ'.caches u) (x, (kk : Int)) = AL.get (σ.caches u) (x, (kk : Int)) := fun u hu x kk hx => by
      rw [hsg u hu]
      cases AL.get (σ.caches u) (x, (kk : Int)) with
      | none => rfl
      | some pg => simp [hx]
    have hV : ∀ u, u < 4 -> ∀ i, Vw σ' u name i = if i < m then Vw σ u name i else B3.zero := fun u hu i => by
      simp only [Vw, pageOf]
      rw [hsg u hu]
      cases hg : AL.get (σ.caches u) (name, ((i / 32 : Nat) : Int)) with
      | none =>
        simp only [Option.bind_none, Option.getD_none]
        split <;> rfl
      | some pg =>
        simp only [Option.bind_some, Option.getD_some, ne_eq, not_true_eq_false, false_or]
        by_cases c1 : (i / 32 + 1) * 32 <= m
        · rw [if_pos c1, if_pos (by omega)]; rfl
        · rw [if_neg c1]
          by_cases c2 : i / 32 * 32 ≥ m
          · rw [if_pos c2, if_neg (by omega)]; rfl
          · rw [if_neg c2]
            simp only [Option.getD_some, vw, shortPg]
            by_cases c3 : i < m
            · have : ¬ (m - i / 32 * 32 <= i % 32 /\ i % 32 < 32) := by omega
              rw [if_pos c3]; simp only [if_neg this]
            · have : m - i / 32 * 32 <= i % 32 /\ i % 32 < 32 := by omega
              rw [if_neg c3]; simp only [if_pos this]; rfl
    have hPs : ∀ u, u < 4 -> ∀ kk, Ps σ' u name kk = (Ps σ u name kk && decide (kk * 32 < m)) := fun u hu kk => by
      rw [Ps, Ps, hsg u hu]
      cases hg : AL.get (σ.caches u) (name, (kk : Int)) with
      | none => rfl
      | some pg =>
        simp only [Option.bind_some, ne_eq, not_true_eq_false, false_or, Option.isSome_some, Bool.true_and]
        by_cases c1 : (kk + 1) * 32 <= m
        · rw [if_pos c1, decide_eq_true (by omega)]; rfl
        · rw [if_neg c1]
          by_cases c2 : kk * 32 ≥ m
          · rw [if_pos c2, decide_eq_false (by omega)]; rfl
          · rw [if_neg c2, decide_eq_true (by omega)]; rfl
    have hrf : ∀ x, AL.get (rSized name m 4 ρ).files x = if name = x then some (sized b m) else AL.get ρ.files x := fun x => by
      show AL.get (AL.put ρ.files name _) x = _
      rw [AL.get_put, hb]; rfl
    have hrc : ∀ u, u < 4 -> ∀ x, (rSized name m 4 ρ).cOf u x = if name = x then (ρ.cOf u name).take m else ρ.cOf u x := fun u hu x => by
      have e1 : (rSized name m 4 ρ).caches u = cutC ρ u name m := by simp only [rSized, if_pos hu]
      rw [RSys.cOf, e1, cutC]
      by_cases c1 : (ρ.cOf u name).length > m
      · rw [if_pos c1, AL.get_put]
        by_cases e : name = x
        · rw [if_pos e, if_pos e]; rfl
        · rw [if_neg e, if_neg e]; rfl
      · rw [if_neg c1]
        by_cases e : name = x
        · rw [if_pos e, ← e, List.take_of_length_le (by omega)]; rfl
        · rw [if_neg e]; rfl
    have hcg : ∀ u i, ((ρ.cOf u name).take m).getD i B3.zero = if i < m then (ρ.cOf u name).getD i B3.zero else B3.zero := fun u i => by
      simp only [List.getD]
      by_cases hi : i < m
      · rw [if_pos hi, List.getElem?_take_of_lt hi]
      · rw [if_neg hi, List.getElem?_take_eq_none (by omega)]; rfl
    have hkeep : ∀ u, u < 4 -> ∀ q ∈ σ'.caches u, ∃ q0 ∈ σ.caches u, shortA m name q0 = some q := fun u hu q hq => by rw [hca u hu] at hq; exact List.mem_filterMap.1 hq
    have hlen : ∀ u, u < 4 -> (σ'.caches u).length <= (σ.caches u).length := fun u hu => by rw [hca u hu]; exact List.length_filterMap_le _ _
    refine ⟨⟨fun x => ?_, ?_, s2.trans h.sim.lk, fun u hu x b' hb' i => ?_, fun u hu x b' hb' kk => ?_, fun u hu x b' hb' i => ?_, fun u hu x hx => ?_, by rw [s1]; exact AL.nodup_put h.sim.nd _ _⟩, ⟨fun x f hx => ?_, fun u hu q hq => ?_, fun u hu => Nat.le_trans (hlen u hu) (h.good.cnt u hu), fun u hu q hq => ?_⟩, ⟨fun x b' hb' => ?_, fun u hu x b' hb' => ?_⟩, fun u hu => Nat.le_trans (hlen u hu) (h.sizes u hu), h.locks, h.held, ?_⟩
    · rw [hrf, s1]
      show AL.get (AL.put σ.files name _) x = _
      rw [AL.get_put, h.sim.fg]
    · rw [s1]
      show (AL.put σ.files name _).length = (AL.put ρ.files name _).length
      rw [AL.length_put_old (by rw [hbs]; simp), AL.length_put_old (by rw [hb]; simp)]; exact h.sim.fn
    · rw [hrf] at hb'
      rw [hrc u hu]
      by_cases e : name = x
      · subst e
        rw [if_pos rfl, hcg, hV u hu]
        split
        · exact h.sim.v u hu name b hb i
        · exact VE.refl _
      · rw [if_neg e] at hb'
        rw [if_neg e]
        have : Vw σ' u x i = Vw σ u x i := by simp only [Vw, pageOf, hsx u hu x _ (Ne.symm e)]
        rw [this]; exact h.sim.v u hu x b' hb' i
    · rw [hrf] at hb'
      rw [hrc u hu]
      by_cases e : name = x
      · subst e
        rw [if_pos rfl, hcg, hPs u hu, h.sim.p u hu name b hb kk]
        by_cases hk : kk * 32 < m
        · rw [if_pos hk, decide_eq_true hk, Bool.and_true]
        · rw [if_neg hk, decide_eq_false hk, Bool.and_false]; rfl
      · rw [if_neg e] at hb'
        rw [if_neg e]
        have : Ps σ' u x kk = Ps σ u x kk := by simp only [Ps, hsx u hu x _ (Ne.symm e)]
        rw [this]; exact h.sim.p u hu x b' hb' kk
    · rw [hrf] at hb'
      rw [hrc u hu]
      by_cases e : name = x
      · subst e
        rw [if_pos rfl, hcg]
        split
        · exact h.sim.dk u hu name b hb i
        · simp [B3.zero]
      · rw [if_neg e] at hb'
        rw [if_neg e]; exact h.sim.dk u hu x b' hb' i
    · rw [hrf] at hx
      by_cases e : name = x
      · rw [if_pos e] at hx; cases hx
      · rw [if_neg e] at hx
        rw [hrc u hu, if_neg e]; exact h.sim.nc u hu x hx
    · rw [s1] at hx
      have hx : AL.get (AL.put σ.files name (sized b m)) x = some f := hx
      rw [AL.get_put] at hx
      split at hx
      · cases hx; rw [sized_len]; omega
      · exact h.good.small x f hx
    · obtain ⟨q0, hq0, hA⟩ := hkeep u hu q hq
      rw [shortA_key hA]; exact h.good.near u hu q0 hq0
    · obtain ⟨q0, hq0, hA⟩ := hkeep u hu q hq
      have hk := shortA_key hA
      obtain ⟨f, hf, hi⟩ := h.good.file u hu q0 hq0
      have hnr := h.good.near u hu q0 hq0
      rw [s1]
      show ∃ f, AL.get (AL.put σ.files name (sized b m)) q.1.1 = some f /\ _
      rw [hk, AL.get_put]
      by_cases e : name = q0.1.1
      · rw [if_pos e]
        refine ⟨_, rfl, fun i hi32 hkd => ?_⟩
        rw [sized_len]
        unfold shortA at hA
        rw [hk] at *
        by_cases c1 : q0.1.1 ≠ name ∨ (q0.1.2 + 1) * 32 <= (m : Int)
        · rcases c1 with c1 | c1
          · exact absurd e.symm c1
          · omega
        · rw [if_neg c1] at hA
          by_cases c2 : q0.1.2 * 32 ≥ (m : Int)
          · rw [if_pos c2] at hA; cases hA
          · rw [if_neg c2] at hA
            have hA := Option.some.inj hA
            rw [← hA] at hkd
            simp only [shortPg] at hkd
            by_cases c3 : m - q0.1.2.toNat * 32 <= i /\ i < 32
            · rw [if_pos c3, if_pos c3] at hkd
              rcases hkd with hkd | hkd <;> cases hkd
            · omega
      · rw [if_neg e]
        refine ⟨f, hf, fun i hi32 hkd => hi i hi32 ?_⟩
        unfold shortA at hA
        rw [if_pos (.inl (Ne.symm e))] at hA
        rw [Option.some.inj hA]; exact hkd
    · rw [hrf] at hb'
      split at hb'
      · cases hb'; rw [sized_len]; omega
      · exact h.rgood.fsz x b' hb'
    · rw [hrf] at hb'
      rw [hrc u hu]
      by_cases e : name = x
      · rw [if_pos e] at hb'; cases hb'
        rw [if_pos e, sized_len, List.length_take]; omega
      · rw [if_neg e] at hb'
        rw [if_neg e]; exact h.rgood.cin u hu x b' hb'
    · show (AL.put ρ.files name _).length <= 8
      rw [AL.length_put_old (by rw [hb]; simp)]; exact h.files
  · rw [if_neg h0, if_neg h0]; exact h
end Go.Proofs.YtnigfiljenfgjaaGreat

/- The disk: falls are alike. -/
set_option maxRecDepth 100000
set_option linter.unusedVariables false
set_option linter.unusedSimpArgs false
namespace Go.Proofs.YtnigfiljenfgjaaGreat
open Go.Sh Go.RowKit
variable {N : Nat} {σ : Sys} {ρ ρ' : RSys}
theorem sum_split (a : ByteArray) (d : Nat) (g : ByteArray -> Nat) : ∀ (ns : List ByteArray), ns.Nodup -> a ∈ ns -> (ns.map fun x => (if a = x then d else 0) + g x).sum = d + (ns.map g).sum
  | [], _, h => by cases h
  | y :: ns, hn, h => by
    simp only [List.nodup_cons] at hn
    simp only [List.map_cons, List.sum_cons]
    by_cases e : a = y
    · subst e
      have : (ns.map fun x => (if a = x then d else 0) + g x) = ns.map g := List.map_congr_left fun x hx => by
        rw [if_neg fun e : a = x => hn.1 (by rw [e]; exact hx)]; omega
      rw [this, if_pos rfl]; omega
    · have h' : a ∈ ns := (List.mem_cons.1 h).resolve_left e
      rw [sum_split a d g ns hn.2 h', if_neg e]; omega
def ofN (x : ByteArray) (q : Place × Page) : Bool := decide (q.1.1 = x)
theorem sumD_split (ns : List ByteArray) (hn : ns.Nodup) : ∀ (l : List (Place × Page)), (∀ q ∈ l, q.1.1 ∈ ns) -> sumD l = (ns.map fun x => sumD (l.filter (ofN x))).sum
  | [], _ => by
    have : (ns.map fun x => sumD (([] : List (Place × Page)).filter (ofN x))) = ns.map fun _ => 0 := rfl
    rw [this]
    have hz : ∀ ns : List ByteArray, (ns.map fun _ => 0).sum = 0 := fun ns => by
      induction ns with
      | nil => rfl
      | cons a ns ih => rw [List.map_cons, List.sum_cons, ih]
    rw [hz]; rfl
  | q :: l, h => by
    have ih := sumD_split ns hn l fun q' hq' => h q' (List.mem_cons_of_mem _ hq')
    have e1 : (ns.map fun x => sumD ((q :: l).filter (ofN x))) = ns.map fun x => (if q.1.1 = x then dirtyN q.2 else 0) + sumD (l.filter (ofN x)) := List.map_congr_left fun x _ => by
      by_cases e : q.1.1 = x
      · rw [if_pos e, List.filter_cons_of_pos (by rw [ofN]; exact decide_eq_true e)]; simp [sumD]
      · rw [if_neg e, List.filter_cons_of_neg (by rw [ofN, decide_eq_false e]; decide)]; omega
    rw [e1, sum_split _ _ _ ns hn (h q (List.mem_cons_self ..)), ← ih]
    simp [sumD]
theorem rawP_len (pg : Page) (kk : Int) : (rawP pg kk 32).length = dirtyN pg := by rw [rawP, List.length_map, dirtyN]
theorem Ok.sumName (h : Ok N σ ρ) {v : Nat} (hv : v < 4) (hnd : ((σ.caches v).map Prod.fst).Nodup) {name : ByteArray} {b : List UInt8} (hb : AL.get ρ.files name = some b) : sumD ((σ.caches v).filter (ofN name)) = (dirtyL (ρ.cOf v name)).length := by
  have hr := (h.raw hv hnd hb (List.Perm.refl _)).length_eq
  rw [List.length_map] at hr
  rw [← hr, List.filter_map]
  have hfl : (σ.caches v).filter (inPages name 0 65536 ∘ Prod.fst) = (σ.caches v).filter (ofN name) := List.filter_congr fun q hq => by
    rw [Function.comp_apply, ofN]
    by_cases e : q.1.1 = name
    · rw [decide_eq_true e]
      have hnr := (h.good.near v hv q hq).1
      have hP : Ps σ v name q.1.2.toNat = true := by
        rw [Ps_iff]
        refine List.mem_map.2 ⟨q, hq, ?_⟩
        rw [Int.toNat_of_nonneg hnr, ← e]
      have := h.page_lt hv hb hP
      have hsz := h.rgood.fsz name b hb
      exact decide_eq_true ⟨e, by omega, by omega⟩
    · rw [decide_eq_false e]
      exact decide_eq_false fun hx => e hx.1
  rw [hfl, rawOf]
  have : ∀ l : List (Place × Page), (∀ q ∈ l, q ∈ σ.caches v) -> sumD l = ((l.map Prod.fst).flatMap fun p => rawP (pageOf σ v p) p.2 32).length := fun l => by
    induction l with
    | nil => intro _; rfl
    | cons q l ih =>
      intro hl
      have hq := hl q (List.mem_cons_self ..)
      have hpo : pageOf σ v q.1 = q.2 := by simp [pageOf, AL.get_of_mem hnd hq]
      rw [List.map_cons, List.flatMap_cons, List.length_append, ← ih fun x hx => hl x (List.mem_cons_of_mem _ hx), rawP_len, hpo]
      simp [sumD]
  exact this _ fun q hq => List.filter_sublist.subset hq
theorem Ok.fall (h : Ok N σ ρ) (hrn : (ρ.files.map Prod.fst).Nodup) (hσn : ∀ u, u < 4 -> ((σ.caches u).map Prod.fst).Nodup) (u : Int) : fallN u σ = rFallN u ρ /\ Ok N (fallS u σ) (rFallS u ρ) := by
  have hC : fallC u = rFallC u := rfl
  unfold fallN rFallN fallS rFallS
  rw [hC]
  by_cases h0 : rFallC u = 0
  · rw [if_pos h0, if_pos h0, if_pos h0, if_pos h0]
    have hu : 0 <= u /\ u < 4 := by
      unfold rFallC at h0
      by_cases c : u < 0 ∨ u ≥ 4
      · rw [if_pos c] at h0; cases h0
      · omega
    obtain ⟨v, rfl⟩ := Int.eq_ofNat_of_zero_le hu.1
    have hv : v < 4 := by omega
    rw [Int.toNat_natCast]
    refine ⟨?_, ?_⟩
    · rw [sumD_split (ρ.files.map Prod.fst) hrn (σ.caches v) fun q hq => ?_, rFallK, List.take_length, List.map_map]
      · congr 1
        refine List.map_congr_left fun f hf => ?_
        exact h.sumName hv (hσn v hv) (AL.get_of_mem hrn hf)
      · obtain ⟨f, hf, _⟩ := h.good.file v hv q hq
        rw [h.sim.fg] at hf
        exact List.mem_map_of_mem (f := Prod.fst) (AL.get_mem hf)
    · have hca : ∀ x, ({ σ with caches := fun x => if x = v then [] else σ.caches x, locks := σ.locks.filter fun l => !decide (l.u = (v : Int)) } : Sys).caches x = if x = v then [] else σ.caches x := fun x => rfl
      have hrc : ∀ x y, ({ ρ.emp v with held := ρ.held.filter fun l => decide (l.u ≠ (v : Int)) } : RSys).cOf x y = if x = v then [] else ρ.cOf x y := fun x y => by
        show (AL.get (if x = v then [] else ρ.caches x) y).getD [] = _
        by_cases e : x = v
        · rw [if_pos e, if_pos e]; rfl
        · rw [if_neg e, if_neg e]; rfl
      generalize hσ' : ({ σ with caches := fun x => if x = v then [] else σ.caches x, locks := σ.locks.filter fun l => !decide (l.u = (v : Int)) } : Sys) = σ' at hca
      have hsub : ∀ x q, q ∈ σ'.caches x -> q ∈ σ.caches x := fun x q hq => by
        rw [hca] at hq
        split at hq
        · cases hq
        · exact hq
      have hlen : ∀ x, (σ'.caches x).length <= (σ.caches x).length := fun x => by
        rw [hca]; split
        · exact Nat.zero_le _
        · exact Nat.le_refl _
      have hf : σ'.files = σ.files := by rw [← hσ']
      have hl : σ'.locks = σ.locks.filter fun l => !decide (l.u = (v : Int)) := by rw [← hσ']
      have hlk : σ'.locks = ρ.held.filter fun l => decide (l.u ≠ (v : Int)) := by
        rw [hl, h.sim.lk]
        refine List.filter_congr fun l _ => ?_
        by_cases e : l.u = (v : Int) <;> simp [e]
      refine ⟨⟨fun x => by rw [hf]; exact h.sim.fg x, by rw [hf]; exact h.sim.fn, hlk, fun x hx y b hb i => ?_, fun x hx y b hb kk => ?_, fun x hx y b hb i => ?_, fun x hx y hy => ?_, by rw [hf]; exact h.sim.nd⟩, ⟨by rw [Small, hf]; exact h.good.small, fun x hx q hq => h.good.near x hx q (hsub x q hq), fun x hx => Nat.le_trans (hlen x) (h.good.cnt x hx), fun x hx q hq => by rw [hf]; exact h.good.file x hx q (hsub x q hq)⟩, ⟨h.rgood.fsz, fun x hx y b hb => ?_⟩, fun x hx => Nat.le_trans (hlen x) (h.sizes x hx), fun l hl => h.locks l (List.filter_sublist.subset hl), Nat.le_trans (List.length_filter_le _ _) h.held, h.files⟩
      · rw [hrc]
        by_cases e : x = v
        · rw [if_pos e, Vw_none (by rw [hca, if_pos e]; rfl)]; exact VE.refl _
        · rw [if_neg e]
          have : Vw σ' x y i = Vw σ x y i := by simp only [Vw, pageOf, hca, if_neg e]
          rw [this]; exact h.sim.v x hx y b hb i
      · rw [hrc]
        by_cases e : x = v
        · rw [if_pos e, Ps, hca, if_pos e]; rfl
        · rw [if_neg e]
          have : Ps σ' x y kk = Ps σ x y kk := by simp only [Ps, hca, if_neg e]
          rw [this]; exact h.sim.p x hx y b hb kk
      · rw [hrc]
        by_cases e : x = v
        · rw [if_pos e]; simp [B3.zero]
        · rw [if_neg e]; exact h.sim.dk x hx y b hb i
      · rw [hrc]
        by_cases e : x = v
        · rw [if_pos e]
        · rw [if_neg e]; exact h.sim.nc x hx y hy
      · rw [hrc]
        by_cases e : x = v
        · rw [if_pos e]; exact Nat.zero_le _
        · rw [if_neg e]; exact h.rgood.cin x hx y b hb
  · rw [if_neg h0, if_neg h0, if_neg h0, if_neg h0]; exact ⟨rfl, h⟩
end Go.Proofs.YtnigfiljenfgjaaGreat

/- The disk: the lists of names are alike. -/
set_option maxRecDepth 100000
set_option linter.unusedVariables false
set_option linter.unusedSimpArgs false
namespace Go.Proofs.YtnigfiljenfgjaaGreat
open Go.Sh Go.RowKit
variable {N : Nat} {σ : Sys} {ρ : RSys}
theorem srt_asc {l : List ByteArray} (hn : l.Nodup) : (srt l).Pairwise fun a b => bLt a b = true := by
  have h1 : (srt l).Nodup := (srt_perm l).nodup_iff.2 hn
  have h2 := srt_sorted l
  exact (h2.and h1).imp fun ⟨a, b⟩ => bLt_of a b
theorem Sim.names (h : Sim σ ρ) (hs : SortedF ρ.files) : srt (σ.files.map Prod.fst) = ρ.files.map Prod.fst := by
  refine asc_ext (srt_asc h.nd) hs fun x => ?_
  rw [mem_srt]
  have h1 := h.fg x
  constructor
  · intro hx
    cases hg : AL.get ρ.files x with
    | none => rw [hg] at h1; exact absurd hx (AL.get_none.1 h1)
    | some b => exact List.mem_map_of_mem (f := Prod.fst) (AL.get_mem hg)
  · intro hx
    cases hg : AL.get σ.files x with
    | none => rw [hg] at h1; exact absurd hx (AL.get_none.1 h1.symm)
    | some b => exact List.mem_map_of_mem (f := Prod.fst) (AL.get_mem hg)
theorem SortedF.del {l : List (ByteArray × List UInt8)} (h : SortedF l) (name : ByteArray) : SortedF (AL.del l name) := h.sublist ((del_sub l name).map _)
theorem SortedF.put {l : List (ByteArray × List UInt8)} (h : SortedF l) {name : ByteArray} (hg : AL.get l name ≠ none) (b : List UInt8) : SortedF (AL.put l name b) := by
  unfold SortedF
  rw [keys_put_same hg]; exact h
end Go.Proofs.YtnigfiljenfgjaaGreat

/- The disk: each act keeps the reference's files in order. -/
set_option maxRecDepth 100000
set_option linter.unusedVariables false
set_option linter.unusedSimpArgs false
namespace Go.Proofs.YtnigfiljenfgjaaGreat
open Go.Sh Go.RowKit
variable {N : Nat} {σ : Sys} {ρ : RSys}
theorem rMakeS_sorted (h : SortedF ρ.files) (name : ByteArray) : SortedF (rMakeS name ρ).files := by
  unfold rMakeS
  by_cases h0 : rMakeC name ρ = 0
  · rw [if_pos h0]
    refine mkFiles_sorted h fun f hf e => ?_
    have hg : AL.get ρ.files name = none := by
      unfold rMakeC at h0
      by_cases hn : isNm name
      · cases hg : AL.get ρ.files name with
        | none => rfl
        | some b => simp [hn, hg] at h0
      · simp [hn] at h0
    exact AL.get_none.1 hg (e ▸ List.mem_map_of_mem (f := Prod.fst) hf)
  · rw [if_neg h0]; exact h
theorem rDropS_sorted (h : SortedF ρ.files) (name : ByteArray) : SortedF (rDropS name ρ).files := by
  unfold rDropS
  split
  · exact h.del name
  · exact h
theorem rResizeS_sorted (h : SortedF ρ.files) (name : ByteArray) (n : Int) : SortedF (rResizeS name n ρ).files := by
  unfold rResizeS
  by_cases h0 : rResizeC name n ρ = 0
  · rw [if_pos h0]
    refine h.put ?_ _
    unfold rResizeC at h0
    by_cases h1 : rAsk name ρ = 0
    · obtain ⟨b, hb⟩ := rAsk_zero h1
      rw [hb]; simp
    · rw [if_pos h1] at h0; exact absurd h0 h1
  · rw [if_neg h0]; exact h
theorem wr_sorted (h : SortedF ρ.files) {u : Nat} {name : ByteArray} (hg : AL.get ρ.files name ≠ none) (M : Nat -> Bool) : SortedF (ρ.wr u name M).files := by
  unfold RSys.wr
  split
  · exact h
  · exact h.put hg _
theorem rReadS_sorted (h : SortedF ρ.files) (u : Int) (name : ByteArray) (at_ n : Int) : SortedF (rReadS u name at_ n ρ).files := by
  unfold rReadS
  split
  · rw [(fetchS_files ρ _ _ _ _).1]; exact h
  · exact h
theorem rWriteS_sorted (h : SortedF ρ.files) (u : Int) (name : ByteArray) (at_ : Int) (bs : List UInt8) : SortedF (rWriteS u name at_ bs ρ).files := by
  unfold rWriteS
  split
  · rw [(updC_files _ _ _ _).1, (fetchS_files ρ _ _ _ _).1]; exact h
  · exact h
theorem rFallS_sorted (h : SortedF ρ.files) (u : Int) : SortedF (rFallS u ρ).files := by
  unfold rFallS
  split
  · exact h
  · exact h
end Go.Proofs.YtnigfiljenfgjaaGreat

/- The disk: rows of four numbers in order: there is one order, and putting one in keeps it. No condition. -/
set_option maxRecDepth 100000
set_option linter.unusedVariables false
set_option linter.unusedSimpArgs false
namespace Go.Proofs.YtnigfiljenfgjaaGreat
open Go.Sh Go.RowKit
theorem q4_iff (x y : Q4) : q4Lt x y = true ↔ x.a < y.a ∨ (x.a = y.a /\ (x.b < y.b ∨ (x.b = y.b /\ (x.c < y.c ∨ (x.c = y.c /\ x.d < y.d))))) := by
  have e : q4Lt x y = if x.a ≠ y.a then decide (x.a < y.a) else if x.b ≠ y.b then decide (x.b < y.b) else if x.c ≠ y.c then decide (x.c < y.c) else if x.d ≠ y.d then decide (x.d < y.d) else false := rfl
  rw [e]
  by_cases h1 : x.a = y.a
  · rw [if_neg (fun h => h h1)]
    by_cases h2 : x.b = y.b
    · rw [if_neg (fun h => h h2)]
      by_cases h3 : x.c = y.c
      · rw [if_neg (fun h => h h3)]
        by_cases h4 : x.d = y.d
        · rw [if_neg (fun h => h h4)]; constructor
          · intro h; cases h
          · intro h; omega
        · rw [if_pos h4, decide_eq_true_iff]; omega
      · rw [if_pos h3, decide_eq_true_iff]; omega
    · rw [if_pos h2, decide_eq_true_iff]; omega
  · rw [if_pos h1, decide_eq_true_iff]; omega
theorem q4_no (x y : Q4) : q4Lt x y = false ↔ ¬ (x.a < y.a ∨ (x.a = y.a /\ (x.b < y.b ∨ (x.b = y.b /\ (x.c < y.c ∨ (x.c = y.c /\ x.d < y.d)))))) := by
  rw [← q4_iff]; cases q4Lt x y <;> simp
theorem q4_eq {x y : Q4} (h1 : q4Lt x y = false) (h2 : q4Lt y x = false) : x = y := by
  rw [q4_no] at h1 h2
  obtain ⟨a, b, c, d⟩ := x
  obtain ⟨a', b', c', d'⟩ := y
  simp only at h1 h2
  have : a = a' /\ b = b' /\ c = c' /\ d = d' := by omega
  obtain ⟨rfl, rfl, rfl, rfl⟩ := this
  rfl
theorem q4_asym {x y : Q4} (h : q4Lt x y = true) : q4Lt y x = false := by rw [q4_iff] at h; rw [q4_no]; omega
def SrtQ (l : List Q4) : Prop := l.Pairwise fun a b => q4Lt b a = false
theorem srtQ_uniq : ∀ {l l' : List Q4}, SrtQ l -> SrtQ l' -> l.Perm l' -> l = l'
  | [], l', _, _, hp => (List.nil_perm.1 hp).symm
  | a :: l, [], _, _, hp => absurd (List.perm_nil.1 hp) (by simp)
  | a :: l, b :: r, h1, h2, hp => by
    have h1' := List.pairwise_cons.1 h1
    have h2' := List.pairwise_cons.1 h2
    have hab : a = b := by
      by_cases e : a = b
      · exact e
      · have ha : a ∈ r := by
          have := hp.mem_iff.1 (List.mem_cons_self (a := a) (l := l))
          rcases List.mem_cons.1 this with h | h
          · exact absurd h e
          · exact h
        have hb : b ∈ l := by
          have := hp.mem_iff.2 (List.mem_cons_self (a := b) (l := r))
          rcases List.mem_cons.1 this with h | h
          · exact absurd h.symm e
          · exact h
        exact q4_eq (h2'.1 a ha) (h1'.1 b hb)
    subst hab
    rw [srtQ_uniq h1'.2 h2'.2 (List.Perm.cons_inv hp)]
theorem srtQ_put {pre post : List Q4} {x : Q4} (h : SrtQ (pre ++ post)) (hx : ∀ y ∈ post, q4Lt x y = true) (hl : ∀ p, pre.getLast? = some p -> q4Lt x p = false) : SrtQ (pre ++ x :: post) := by
  obtain ⟨h1, h2, h3⟩ := List.pairwise_append.1 h
  have hpre : ∀ p ∈ pre, q4Lt x p = false := fun p hp => by
    cases hq : pre.getLast? with
    | none => rw [List.getLast?_eq_none_iff] at hq; rw [hq] at hp; cases hp
    | some q =>
      have hlast := hl q hq
      obtain ⟨ys, rfl⟩ := List.getLast?_eq_some_iff.1 hq
      rcases List.mem_append.1 hp with hp | hp
      · have h4 := (List.pairwise_append.1 h1).2.2 p hp q (by simp)
        rw [q4_no] at *; omega
      · have : p = q := by simpa using hp
        rw [this]; exact hlast
  refine List.pairwise_append.2 ⟨h1, List.pairwise_cons.2 ⟨fun y hy => q4_asym (hx y hy), h2⟩, fun p hp y hy => ?_⟩
  rcases List.mem_cons.1 hy with rfl | hy
  · exact hpre p hp
  · exact h3 p hp y hy
end Go.Proofs.YtnigfiljenfgjaaGreat

/- The disk's reference: its locks, listed in order. No condition but those stated. -/
set_option maxRecDepth 100000
set_option linter.unusedVariables false
set_option linter.unusedSimpArgs false
namespace Go.Proofs.YtnigfiljenfgjaaGreat
open Go.Sh Go.RowKit
variable {w w' : World} {r : RLay} {ρ : RSys}
def posN : List ByteArray -> ByteArray -> Int
  | [], _ => -1
  | y :: l, x => if y = x then 0 else if posN l x < 0 then -1 else posN l x + 1
theorem posN_no : ∀ {l : List ByteArray} {x : ByteArray}, (∀ y ∈ l, y ≠ x) -> posN l x = -1
  | [], _, _ => rfl
  | y :: l, x, h => by
    show (if y = x then 0 else if posN l x < 0 then -1 else posN l x + 1) = -1
    rw [if_neg (h y (List.mem_cons_self ..)), posN_no fun z hz => h z (List.mem_cons_of_mem _ hz)]; rfl
theorem posN_first : ∀ {l : List ByteArray} {k : Nat} {x : ByteArray}, l[k]? = some x -> (∀ (j : Nat) (y : ByteArray), j < k -> l[j]? = some y -> y ≠ x) -> posN l x = (k : Int)
  | [], _, _, h, _ => by simp at h
  | y :: l, 0, x, h, _ => by
    have h : y = x := by simpa using h
    show (if y = x then 0 else _) = _
    rw [if_pos h]; rfl
  | y :: l, k + 1, x, h, hb => by
    have ih := posN_first (l := l) (k := k) (x := x) (by simpa using h) fun j z hj hz => hb (j + 1) z (by omega) (by simpa using hz)
    show (if y = x then 0 else if posN l x < 0 then -1 else posN l x + 1) = _
    rw [if_neg (hb 0 y (by omega) rfl), ih, if_neg (by omega)]; omega
theorem posN_at {l : List ByteArray} (hn : l.Nodup) {k : Nat} {x : ByteArray} (h : l[k]? = some x) : posN l x = (k : Int) := posN_first h fun j y hj hy e => by
  subst e
  have h1 := (List.getElem?_eq_some_iff.1 h).1
  have h2 := List.getElem_inj hn (h₀ := Nat.lt_trans hj h1) (h₁ := h1) |>.1 (by
    rw [(List.getElem?_eq_some_iff.1 hy).2, (List.getElem?_eq_some_iff.1 h).2])
  omega
theorem at_pos {l : List (ByteArray × List UInt8)} (hn : (l.map Prod.fst).Nodup) {x : ByteArray} {n : Int} (h : At l x n) : n = posN (l.map Prod.fst) x := by
  rcases h with ⟨rfl, h⟩ | ⟨k, b, rfl, h, _⟩
  · rw [posN_no]
    intro y hy e
    subst e
    exact AL.get_none.1 h hy
  · rw [posN_at hn (k := k) (by rw [List.getElem?_map, h]; rfl)]
def rowQ (names : List ByteArray) (l : Lock) : Q4 := ⟨l.u, posN names l.name, l.at_, l.n⟩
theorem u44 : Tryz.prog.underlying 44 = some (.slice 103) := by kernel_rfl
theorem info103 : (Tryz.prog.info? 103).map (fun i => (i.zero, i.size, i.bytes)) = some (some (.agg #[.int .i64 0, .int .i64 0, .int .i64 0, .int .i64 0]), 4, 32) := by kernel_rfl
theorem size103 : sizeB Tryz.prog 103 = 4 := by kernel_rfl
theorem size127 : sizeB Tryz.prog 127 = 4 := by kernel_rfl
theorem q4_ones (x : Q4) : (Q4.cells x).all oneC = true := rfl
theorem row_push_q4 {s : SV} {vs : List Value} (h : RowAt w 103 4 s vs) {a : Addr} (x : Q4) (hc : ∀ j v, (Q4.cells x)[j]? = some v -> w.cell? (a.add j) = some v) (hb : s.len <= 1000000000) :
    ∃ (s' : SV) (w' : World), (Builtin.append_ #[44, 44] 44 #[.slice s.a s.len s.cap, .slice (some a) 1 1]).run Tryz.prog w = .ok (.slice s'.a s'.len s'.cap) w' /\ RowAt w' 103 4 s' (vs ++ Q4.cells x) /\ Fr (· ∈ blkOf s) w w' /\ (∀ k ∈ blkOf s', k ∈ blkOf s ∨ w.heap.size <= k) /\ s'.len = s.len + 1 := by
  obtain ⟨i, h1, h2, h3, h4⟩ := info_parts info103
  exact row_append (P := Tryz.prog) u44 h1 h2 h3 rfl (by decide) h (m := 1) (c := 1) (news := Q4.cells x) rfl hc (fun v hv => by
    simp only [Q4.cells, List.mem_cons, List.not_mem_nil, or_false] at hv
    rcases hv with rfl | rfl | rfl | rfl <;> rfl) (by rw [h4]; omega)
theorem set_mid {α : Type} (a b : List α) (y z : α) : (a ++ y :: b).set a.length z = a ++ z :: b := by
  rw [List.set_append_right _ _ (Nat.le_refl _), Nat.sub_self, List.set_cons_zero]
theorem q4At {s : SV} {q : List Q4} (h : RowAt w 103 4 s (q.flatMap Q4.cells)) {i : Nat} {x : Q4} (hx : q[i]? = some x) : ∃ a, s.a = some a /\ (0 : Int) <= (i : Int) /\ (i : Int) < ((s.len : Nat) : Int) /\ w.cell? ((a.add ((i : Int).toNat * 4)).add 0) = some (.int .i64 x.a) /\
    w.cell? ((a.add ((i : Int).toNat * 4)).add 1) = some (.int .i64 x.b) /\ w.cell? ((a.add ((i : Int).toNat * 4)).add 2) = some (.int .i64 x.c) /\ w.cell? ((a.add ((i : Int).toNat * 4)).add 3) = some (.int .i64 x.d) := by
  obtain ⟨a, ha, hi, c0⟩ := h.elem Q4.len hx (o := 0) (v := .int .i64 x.a) rfl
  obtain ⟨a1, ha1, _, c1⟩ := h.elem Q4.len hx (o := 1) (v := .int .i64 x.b) rfl
  obtain ⟨a2, ha2, _, c2⟩ := h.elem Q4.len hx (o := 2) (v := .int .i64 x.c) rfl
  obtain ⟨a3, ha3, _, c3⟩ := h.elem Q4.len hx (o := 3) (v := .int .i64 x.d) rfl
  rw [ha] at ha1 ha2 ha3; cases ha1; cases ha2; cases ha3
  rw [Int.toNat_natCast]
  exact ⟨a, ha, by omega, by omega, c0, c1, c2, c3⟩
end Go.Proofs.YtnigfiljenfgjaaGreat

/- The disk's reference: its locks, listed in order. No condition but those stated. -/
set_option maxRecDepth 100000
set_option linter.unusedVariables false
set_option linter.unusedSimpArgs false
namespace Go.Proofs.YtnigfiljenfgjaaGreat
open Go.Sh Go.RowKit
variable {w w' : World} {r : RLay} {ρ : RSys}
theorem rLocks_c (h : RSysAt w r ρ) (hl : ρ.held.length <= 1000) (hfc : ρ.files.length <= 1000) : Calls Tryz.prog 65 #[r.ptr] w fun e w' => ∃ (l : SV) (q : List Q4), e = .returned (.slice l.a l.len l.cap) /\ RowAt w' 103 4 l (q.flatMap Q4.cells) /\ SrtQ q /\ q.Perm (ρ.held.map (rowQ (ρ.files.map Prod.fst))) /\ (∀ b ∈ blkOf l, w.heap.size <= b) /\ Pu w w' := by
  refine F65_calls _ w _ ?_
  have hhl := h.lk.len Lock.len (by omega)
  refine loopUp ρ.held.length (fun k t w' => t.2 = (k : Int) /\ ∃ q : List Q4, RowAt w' 103 4 t.1 (q.flatMap Q4.cells) /\ SrtQ q /\ q.Perm ((ρ.held.take k).map (rowQ (ρ.files.map Prod.fst))) /\ (∀ b ∈ blkOf t.1, w.heap.size <= b) /\ Pu w w') ⟨rfl, [], RowAt.nil _ _ _, List.Pairwise.nil, .refl _, by simp [blkOf], Pu.refl _⟩ ?_
  rintro k J ⟨s, t⟩ w2 hk ⟨ht, q, hrow, hsrt, hperm, hb, hp⟩ hJ
  obtain rfl : t = (k : Int) := ht
  have hrow : RowAt w2 103 4 s (q.flatMap Q4.cells) := hrow
  have hb : ∀ b ∈ blkOf s, w.heap.size <= b := hb
  dsimp only
  have h2 := h.pu hp
  have hql : q.length = k := by have := hperm.length_eq; rw [List.length_map, List.length_take] at this; omega
  refine ⟨r.ls, h2.cell5, Br.of (fun d1 => ?_) (fun d1 => ?_)⟩
  · have hkn : k < ρ.held.length := by have := dtrue d1; omega
    obtain ⟨x, hx⟩ := at_k hkn
    obtain ⟨a, ha, hi, c0⟩ := h2.lk.elem Lock.len hx (o := 0) (v := .int .i64 x.u) rfl
    obtain ⟨a1, ha1, _, c1⟩ := h2.lk.elem Lock.len hx (o := 1) (v := .string x.name) rfl
    obtain ⟨a2, ha2, _, c2⟩ := h2.lk.elem Lock.len hx (o := 2) (v := .int .i64 x.at_) rfl
    obtain ⟨a3, ha3, _, c3⟩ := h2.lk.elem Lock.len hx (o := 3) (v := .int .i64 x.n) rfl
    rw [ha] at ha1 ha2 ha3; cases ha1; cases ha2; cases ha3
    refine ⟨r.ls, h2.cell5, a, ha, by omega, by omega, x.u, by rw [Int.toNat_natCast]; exact c0, x.name, by rw [Int.toNat_natCast]; exact c1, x.at_, by rw [Int.toNat_natCast]; exact c2, x.n, by rw [Int.toNat_natCast]; exact c3, ?_⟩
    refine alE_intro fun w3 hw3 => ?_
    have hp3 : Pu w2 w3 := by rw [hw3]; exact Pu.alloc w2 _
    have hn3 : w3.heap[w2.heap.size]? = some (.cells #[.int .i64 0, .string ⟨#[]⟩, .int .i64 0, .int .i64 0] 127) := by rw [hw3]; exact alloc_new w2 _
    refine stA_fill hn3 size127.symm rfl rfl fun w4 hb4 hf4 hz4 => ?_
    have hP24 : Pu w2 w4 := hp3.andNew hf4 fun i hi => by rw [show i = _ from hi]; exact Nat.le_refl _
    refine dwE_intro fun w5 hp5 _ => ⟨fun wz => wz.heap[w2.heap.size]? = some (.cells #[.int .i64 x.u, .string x.name, .int .i64 x.at_, .int .i64 x.n] 127), hp5.blk hb4,
      x.u, fun wz hz => by rw [cell_blk hz]; rfl, x.name, fun wz hz => by rw [add_def, cell_blk hz]; rfl, x.at_, fun wz hz => by rw [add_def, cell_blk hz]; rfl, x.n, fun wz hz => by rw [add_def, cell_blk hz]; rfl, ?_⟩
    have hP5 := (hp.trans hP24).trans hp5
    refine Calls.mono (at_c (h.pu hP5) x.name) ?_
    rintro e w6 ⟨n, rfl, hat, rfl⟩
    refine ⟨n, rfl, hp5.blk hb4, ?_⟩
    have hn := at_pos h.fnd hat
    subst hn
    refine alE_intro fun w7 hw7 => ?_
    have hp7 : Pu w6 w7 := by rw [hw7]; exact Pu.alloc w6 _
    have hn7 : w7.heap[w6.heap.size]? = some (.cells #[.int .i64 x.u, .int .i64 (posN (ρ.files.map Prod.fst) x.name), .int .i64 x.at_, .int .i64 x.n] 103) := by rw [hw7]; exact alloc_new w6 _
    obtain ⟨y, hy⟩ : ∃ y, y = rowQ (ρ.files.map Prod.fst) x := ⟨_, rfl⟩
    have hn7 : w7.heap[w6.heap.size]? = some (.cells (Q4.cells y).toArray 103) := by rw [hy]; exact hn7
    have hsl : s.len = k := by have := hrow.len Q4.len (by omega); omega
    obtain ⟨s', w8, hra, hr8, hf8, hb8, hl8⟩ := row_push_q4 (((hrow.pu hP24).pu hp5).pu hp7) (a := ⟨w6.heap.size, 0, none⟩) y (fun j v hv => by
      rw [add_def, cell_blk hn7, Nat.zero_add]; simpa using hv) (by omega)
    refine ⟨s', w8, hra, ?_⟩
    have hz5 := hP5.size
    have hz7 := hp7.size
    have hP8 : Pu w w8 := (hP5.trans hp7).andNew hf8 fun i hi => hb i hi
    have hb8' : ∀ b ∈ blkOf s', w.heap.size <= b := fun b hb' => by
      rcases hb8 b hb' with h | h
      · exact hb b h
      · omega
    have hr8 : RowAt w8 103 4 s' ((q ++ y :: []).flatMap Q4.cells) := by rw [List.flatMap_append]; simpa using hr8
    rw [show IntKind.i64.wrap (((s'.len : Nat) : Int) - 1) = ((q.length : Nat) : Int) by rw [wrap_in (by omega) (by omega)]; omega]
    have fin : ∀ {pre post : List Q4} {wz : World}, pre ++ post = q -> (∀ z ∈ post, q4Lt y z = true) -> (∀ p, pre.getLast? = some p -> q4Lt y p = false) -> RowAt wz 103 4 s' ((pre ++ y :: post).flatMap Q4.cells) -> Pu w wz -> J (s', IntKind.i64.wrap ((k : Int) + 1)) wz := fun {pre post wz} hpq hpo hla hrz hpz => by
      rw [wrap_in (by omega) (by omega)]
      refine hJ _ _ hkn ⟨by show (k : Int) + 1 = ((k + 1 : Nat) : Int); omega, pre ++ y :: post, hrz, srtQ_put (by rw [hpq]; exact hsrt) hpo hla, ?_, hb8', hpz⟩
      have htk : ρ.held.take (k + 1) = ρ.held.take k ++ [x] := by rw [List.take_add_one, hx]; rfl
      rw [htk, List.map_append, List.map_singleton, ← hy]
      refine List.perm_middle.trans ?_
      rw [hpq]
      exact (List.Perm.cons y hperm).trans (List.perm_append_singleton y _).symm
    refine loopDown q.length (fun j n w' => n = (j : Int) /\ ∃ pre post : List Q4, pre.length = j /\ pre ++ post = q /\ (∀ z ∈ post, q4Lt y z = true) /\ RowAt w' 103 4 s' ((pre ++ y :: post).flatMap Q4.cells) /\ Pu w w') ⟨rfl, q, [], rfl, by simp, by simp, hr8, hP8⟩ ?_
    rintro j J2 n w9 ⟨rfl, pre, post, hj, hpq, hpo, hr9, hp9⟩ hJ2
    refine dwE_intro fun w10 hp10 _ => Br.of (fun d2 => ?_) (fun d2 => ?_)
    · have d2 := dtrue d2
      obtain ⟨pre', p, rfl⟩ : ∃ pre' p, pre = pre' ++ [p] := by
        cases hq : pre.getLast? with
        | none => rw [List.getLast?_eq_none_iff] at hq; subst hq; simp at hj; omega
        | some p => obtain ⟨ys, h⟩ := List.getLast?_eq_some_iff.1 hq; exact ⟨ys, p, h⟩
      have hj' : pre'.length + 1 = j := by simpa using hj
      have hql2 : pre'.length + 1 + post.length = q.length := by have h0 := congrArg List.length hpq; rw [List.length_append, List.length_append] at h0; exact h0
      have eA : pre' ++ [p] ++ y :: post = pre' ++ p :: y :: post := by simp
      rw [eA] at hr9
      have hw1 : IntKind.i64.wrap ((j : Int) - 1) = ((pre'.length : Nat) : Int) := by rw [wrap_in (by omega) (by omega)]; omega
      have gy : (pre' ++ p :: y :: post)[j]? = some y := by rw [← hj', List.getElem?_append_right (by omega)]; simp
      have gp : (pre' ++ p :: y :: post)[pre'.length]? = some p := by rw [List.getElem?_append_right (by omega)]; simp
      rw [hw1]
      obtain ⟨a, ha, i1, i2, e0, e1, e2, e3⟩ := q4At (hr9.pu hp10) gy
      obtain ⟨a', ha', i1', i2', f0, f1, f2, f3⟩ := q4At (hr9.pu hp10) gp
      refine ⟨a, ha, i1, i2, _, e0, _, e1, _, e2, _, e3, a', ha', i1', i2', _, f0, _, f1, _, f2, _, f3, Calls.mono (less_c w10 y p) ?_⟩
      rintro e w11 ⟨rfl, hp11⟩
      refine ⟨_, rfl, Br.of (fun d3 => ?_) (fun d3 => ?_)⟩
      · refine dwE_intro fun w12 hp12 _ => ?_
        have hr12 := ((hr9.pu hp10).pu hp11).pu hp12
        obtain ⟨b, hb1, k1, k2, g0, g1, g2, g3⟩ := q4At hr12 gp
        obtain ⟨b', hb1', k1', k2', h0, h1, h2', h3⟩ := q4At hr12 gy
        refine ⟨b, hb1, k1, k2, _, g0, _, g1, _, g2, _, g3, b', hb1', k1', k2', _, h0, _, h1, _, h2', _, h3, ?_⟩
        have hlen : (pre' ++ p :: y :: post).length = pre'.length + (post.length + 2) := by simp
        have hP12 := ((hp9.trans hp10).trans hp11).trans hp12
        obtain ⟨c, hc, hst⟩ := hr12.stElem (t := 103) (P := Tryz.prog) Q4.len (by decide) (i := j) (by omega) p size103.symm (q4_ones p) (K := fun w13 => ∃ a11 : Addr, s'.a = some a11 /\ 0 <= ((pre'.length : Nat) : Int) /\ ((pre'.length : Nat) : Int) < ((s'.len : Nat) : Int) /\
            stA Tryz.prog 103 (a11.add (((pre'.length : Nat) : Int).toNat * 4)) (Q4.cells y).toArray w13 fun w14 => J2 ((pre'.length : Nat) : Int) w14) fun w13 hr13 hf13 hz13 => by
          have es : (pre' ++ p :: y :: post).set j p = pre' ++ p :: p :: post := by
            rw [← hj']
            simp
          rw [es] at hr13
          have hP13 := hP12.andNew hf13 fun i hi => hb8' i hi
          obtain ⟨c, hc, hst⟩ := hr13.stElem (t := 103) (P := Tryz.prog) Q4.len (by decide) (i := pre'.length) (by simp) y size103.symm (q4_ones y) (K := fun w14 => J2 ((pre'.length : Nat) : Int) w14) fun w14 hr14 hf14 hz14 => by
            rw [set_mid] at hr14
            refine hJ2 pre'.length _ _ (by omega) ⟨rfl, pre', p :: post, rfl, by rw [← hpq]; simp, fun z hz => ?_, hr14, hP13.andNew hf14 fun i hi => hb8' i hi⟩
            rcases List.mem_cons.1 hz with rfl | hz
            · exact d3
            · exact hpo z hz
          exact ⟨c, hc, k1, k2, by rw [Int.toNat_natCast]; exact hst⟩
        exact ⟨c, hc, k1', k2', by rw [Int.toNat_natCast]; exact hst⟩
      · exact fin hpq hpo (fun p' hp' => by
          rw [List.getLast?_append] at hp'
          have : p = p' := by simpa using hp'
          subst this; exact d3) (by rw [eA]; exact (hr9.pu hp10).pu hp11) ((hp9.trans hp10).trans hp11)
    · have d2 := dfalse d2
      obtain rfl : pre = [] := List.eq_nil_of_length_eq_zero (by omega)
      exact fin hpq hpo (fun p hp' => by simp at hp') (hr9.pu hp10) (hp9.trans hp10)
  · have hkn : k = ρ.held.length := by have := dfalse d1; omega
    subst hkn
    rw [List.take_length] at hperm
    exact ⟨s, q, rfl, hrow, hsrt, hperm, hb, hp⟩
end Go.Proofs.YtnigfiljenfgjaaGreat

/- The disk: where a text stands in a list; rows of four numbers compared. No condition. -/
set_option maxRecDepth 100000
set_option linter.unusedVariables false
set_option linter.unusedSimpArgs false
namespace Go.Proofs.YtnigfiljenfgjaaGreat
open Go.Sh Go.RowKit Go.Sort
variable {w w' : World}
theorem indexT_c {s : SV} {l : List ByteArray} (hs : RowAt w 9 1 s (strV l)) (hl : l.length <= 1000000) (x : ByteArray) : Calls Tryz.prog 53 #[.slice s.a s.len s.cap, .string x] w fun e w' => e = .returned (.int .i64 (posN l x)) /\ w' = w := by
  refine F53_calls _ _ w _ ?_
  have hsl : s.len = l.length := by have := hs.1; simpa using this.symm
  refine loopUp l.length (fun k n w' => n = (k : Int) /\ w' = w /\ ∀ (j : Nat) (y : ByteArray), j < k -> l[j]? = some y -> y ≠ x) ⟨rfl, rfl, fun j y h => by omega⟩ ?_
  rintro k J n w1 hk ⟨rfl, rfl, hall⟩ hJ
  refine Br.of (fun q => ?_) (fun q => ?_)
  · have hk2 : k < l.length := by have := dtrue q; omega
    obtain ⟨y, hy⟩ := at_k hk2
    obtain ⟨a, ha, hc, _⟩ := hs.cell (j := k) (v := .string y) (by rw [List.getElem?_map, hy]; rfl)
    refine ⟨a, ha, by omega, by omega, y, by rw [Int.toNat_natCast, Nat.mul_one]; exact hc, ?_⟩
    rw [toList_beq]
    refine Br.of (fun q2 => ⟨?_, rfl⟩) (fun q2 => ?_)
    · have q2 := dtrue q2
      rw [posN_first (k := k) (by rw [hy, q2]) hall]
    · have q2 := dfalse q2
      rw [wrap_in (by omega) (by omega)]
      refine hJ _ _ hk2 ⟨by omega, rfl, fun j z hj hz => ?_⟩
      by_cases e : j = k
      · subst e; rw [hy] at hz; cases hz; exact fun h => q2 h.symm
      · exact hall j z (by omega) hz
  · have q := dfalse q
    refine ⟨?_, rfl⟩
    rw [posN_no]
    intro y hy
    obtain ⟨j, hj⟩ := List.getElem?_of_mem hy
    exact hall j y (by have := (List.getElem?_eq_some_iff.1 hj).1; omega) hj
instance : Inhabited Q4 := ⟨⟨0, 0, 0, 0⟩⟩
def cmpI (x y : Int) : Int := if x < y then -1 else if y < x then 1 else 0
theorem isNaN_c (n : Int) (w : World) : Calls Tryz.prog 134 #[.int .i64 n] w fun e w' => e = .returned (.bool false) /\ w' = w := by
  refine F134_calls n w _ ⟨?_, rfl⟩
  simp
theorem cmpI_c (x y : Int) (w : World) : Calls Tryz.prog 104 #[.int .i64 x, .int .i64 y] w fun e w' => e = .returned (.int .i64 (cmpI x y)) /\ w' = w := by
  refine F104_calls x y w _ (Calls.mono (isNaN_c x w) ?_)
  rintro e w1 ⟨rfl, rfl⟩
  refine ⟨_, rfl, Calls.mono (isNaN_c y w1) ?_⟩
  rintro e w2 ⟨rfl, rfl⟩
  refine ⟨_, rfl, Br.f rfl (Br.f rfl (Br.of (fun q => ⟨?_, rfl⟩) (fun q => Br.of (fun q2 => ⟨?_, rfl⟩) (fun q2 => ⟨?_, rfl⟩))))⟩
  · unfold cmpI; rw [if_pos (dtrue q)]
  · unfold cmpI; rw [if_neg (dfalse q), if_pos (dtrue q2)]
  · unfold cmpI; rw [if_neg (dfalse q), if_neg (dfalse q2)]
def cmpFrom (f g : Nat -> Int) : Nat -> Int
  | 0 => 0
  | m + 1 => if cmpI (f (3 - m)) (g (3 - m)) ≠ 0 then cmpI (f (3 - m)) (g (3 - m)) else cmpFrom f g m
def cmpQ (x y : Q4) : Int := cmpFrom x.g y.g 4
theorem cmpI_zero {x y : Int} : cmpI x y = 0 ↔ x = y := by unfold cmpI; split <;> (try split) <;> omega
theorem cmpI_neg {x y : Int} : cmpI x y < 0 ↔ x < y := by unfold cmpI; split <;> (try split) <;> omega
theorem cmpFrom_lt (f g : Nat -> Int) : ∀ m, decide (cmpFrom f g m < 0) = lexFrom f g m
  | 0 => rfl
  | m + 1 => by
    show decide ((if cmpI (f (3 - m)) (g (3 - m)) ≠ 0 then cmpI (f (3 - m)) (g (3 - m)) else cmpFrom f g m) < 0) = if f (3 - m) ≠ g (3 - m) then decide (f (3 - m) < g (3 - m)) else lexFrom f g m
    by_cases h : f (3 - m) = g (3 - m)
    · rw [if_neg (fun e => e (cmpI_zero.2 h)), if_neg (fun e => e h), cmpFrom_lt f g m]
    · rw [if_pos (fun e => h (cmpI_zero.1 e)), if_pos h]
      exact decide_eq_decide.2 cmpI_neg
theorem compare_c (w : World) (x y : Q4) {r s : Nat} (hr : w.heap[r]? = some (.cells (Q4.cells x).toArray 103)) (hs : w.heap[s]? = some (.cells (Q4.cells y).toArray 103)) :
    Calls Tryz.prog 56 #[.slice (some ⟨r, 0, none⟩) 4 4, .slice (some ⟨s, 0, none⟩) 4 4] w fun e w' => e = .returned (.int .i64 (cmpQ x y)) /\ w' = w := by
  refine F56_calls ⟨some ⟨r, 0, none⟩, 4, 4⟩ ⟨some ⟨s, 0, none⟩, 4, 4⟩ w _ ?_
  refine loopUp 4 (fun k t w' => t = (k : Int) /\ w' = w /\ cmpQ x y = cmpFrom x.g y.g (4 - k)) ⟨rfl, rfl, rfl⟩ ?_
  rintro k J t w1 hk ⟨rfl, rfl, hq⟩ hJ
  refine Br.of (fun q => ?_) (fun q => ?_)
  · have hk4 : k < 4 := by have q : (k : Int) < ((4 : Nat) : Int) := dtrue q; omega
    obtain ⟨m, hm⟩ : ∃ m, 4 - k = m + 1 := ⟨3 - k, by omega⟩
    have h3 : 3 - m = k := by omega
    rw [hm] at hq
    have hq : cmpQ x y = if cmpI (x.g (3 - m)) (y.g (3 - m)) ≠ 0 then cmpI (x.g (3 - m)) (y.g (3 - m)) else cmpFrom x.g y.g m := hq
    rw [h3] at hq
    have cx : w1.cell? ((⟨r, 0, none⟩ : Addr).add ((k : Int).toNat * 1)) = some (.int .i64 (x.g k)) := by rw [add_def, cell_blk hr, show 0 + (k : Int).toNat * 1 = k by omega]; exact x.at hk4
    have cy : w1.cell? ((⟨s, 0, none⟩ : Addr).add ((k : Int).toNat * 1)) = some (.int .i64 (y.g k)) := by rw [add_def, cell_blk hs, show 0 + (k : Int).toNat * 1 = k by omega]; exact y.at hk4
    refine ⟨_, rfl, by omega, by show (k : Int) < ((4 : Nat) : Int); omega, _, cx, Br.f (decide_eq_false (by show ¬ (k : Int) ≥ ((4 : Nat) : Int); omega)) ⟨_, rfl, by omega, by show (k : Int) < ((4 : Nat) : Int); omega, _, cy, Calls.mono (cmpI_c (x.g k) (y.g k) w1) ?_⟩⟩
    rintro e w2 ⟨rfl, rfl⟩
    refine ⟨_, rfl, Br.of (fun q2 => ⟨?_, rfl⟩) (fun q2 => ?_)⟩
    · have q2 : cmpI (x.g k) (y.g k) ≠ 0 := by simpa using q2
      rw [hq, if_pos q2]
    · have q2 : cmpI (x.g k) (y.g k) = 0 := by simpa using q2
      rw [wrap_in (by omega) (by omega)]
      refine hJ _ _ hk4 ⟨by omega, rfl, ?_⟩
      rw [hq, if_neg (fun e => e q2), show 4 - (k + 1) = m by omega]
  · have q : ¬ (k : Int) < ((4 : Nat) : Int) := dfalse q
    obtain rfl : k = 4 := by omega
    refine Br.f (decide_eq_false (by show ¬ (((4 : Nat) : Int) < ((4 : Nat) : Int)); omega)) ⟨by rw [hq]; rfl, rfl⟩
theorem closure_c (x y : Q4) (w : World) : Calls Tryz.prog 55 (#[.agg (Q4.cells x).toArray, .agg (Q4.cells y).toArray] ++ #[]) w fun e w' => e = .returned (.int .i64 (cmpQ x y)) /\ ∃ q os', w' = grow (w.drewN q) os' := by
  refine F55_calls x.a x.b x.c x.d y.a y.b y.c y.d w _ ?_
  refine alE_intro fun w1 hw1 => alE_intro fun w2 hw2 => ?_
  have h1 : w1.heap[w.heap.size]? = some (.cells (Q4.cells x).toArray 103) := by rw [hw1]; exact alloc_new w _
  have h2 : w2.heap[w1.heap.size]? = some (.cells (Q4.cells y).toArray 103) := by rw [hw2]; exact alloc_new w1 _
  have hp2 : Pu w1 w2 := by rw [hw2]; exact Pu.alloc w1 _
  show 4 <= 4 /\ 0 <= 4 /\ 4 <= 4 /\ 0 <= 4 /\ Calls Tryz.prog 56 #[.slice (some ⟨w.heap.size, 0, none⟩) 4 4, .slice (some ⟨w1.heap.size, 0, none⟩) 4 4] w2.drew _
  refine ⟨by omega, by omega, by omega, by omega, Calls.mono (compare_c w2.drew x y (show w2.drew.heap[w.heap.size]? = _ from hp2.blk h1) (show w2.drew.heap[w1.heap.size]? = _ from h2)) ?_⟩
  rintro e w3 ⟨rfl, rfl⟩
  refine ⟨_, rfl, rfl, 1, #[.cells (Q4.cells x).toArray 103, .cells (Q4.cells y).toArray 103], ?_⟩
  rw [hw2, hw1, alloc_eq_grow, alloc_eq_grow, grow_grow]
  rfl
theorem cmpLaysQ (blk off size : Nat) (w : World) : CmpLays Tryz.prog 55 #[] Q4.cells 4 cmpQ blk off size w := fun _ _ _ _ x y => closure_c x y _
theorem ltQ (x y : Q4) : ltOf cmpQ x y = q4Lt x y := cmpFrom_lt x.g y.g 4
theorem swoQ : SWO (ltOf cmpQ) where
  irrefl x := by rw [ltQ, q4_no]; omega
  trans x y z h1 h2 := by rw [ltQ, q4_iff] at *; omega
  ntrans x y z h1 h2 := by rw [ltQ, q4_no] at *; omega
end Go.Proofs.YtnigfiljenfgjaaGreat

/- The disk: arrays held against each other, cell by cell. No condition but those stated. -/
set_option maxRecDepth 100000
set_option linter.unusedVariables false
set_option linter.unusedSimpArgs false
namespace Go.Proofs.YtnigfiljenfgjaaGreat
open Go.Sh Go.RowKit
theorem u103a : Tryz.prog.underlying 103 = some (.array 4 3) := by kernel_rfl
theorem info3a : (Tryz.prog.info? 3).map (fun i => (i.zero, i.size, i.bytes)) = some (some (.int .i64 0), 1, 8) := by kernel_rfl
theorem guard103 : Tryz.prog.eqGuardType Tryz.prog.depth 103 = false := by kernel_rfl
def flatB (P : Program) (e : TypeId) (k : SK) : Bool := !aggB P e && skB P e k && Nat.beq (P.cellsOf e) 1
theorem eqItems_sk {P : Program} (d : Nat) {e : TypeId} {k : SK} (he : flatB P e k = true) (xs ys : Array Value) (fx fy : Nat -> Value) (w : World) : ∀ is : List Nat, (∀ i ∈ is, xs[i]? = some (fx i) /\ ys[i]? = some (fy i) /\ skOf (fx i) = some k /\ skOf (fy i) = some k) ->
    ∃ r, (Op.eqItems (d + 1) e (P.cellsOf e) xs ys is).run P w = .ok r w /\ (r = true ↔ ∀ i ∈ is, fx i = fy i)
  | [], _ => ⟨true, rfl, by simp⟩
  | i :: is, h => by
    simp only [flatB, Bool.and_eq_true, Bool.not_eq_true'] at he
    obtain ⟨⟨h1, h2⟩, h3⟩ := he
    have h3' := Nat.eq_of_beq_eq_true h3
    obtain ⟨r, hr, hi⟩ := eqItems_sk (P := P) d (e := e) (k := k) (by simp [flatB, h1, h2, h3]) xs ys fx fy w is fun j hj => h j (List.mem_cons_of_mem _ hj)
    obtain ⟨a1, a2, a3, a4⟩ := h i (by simp)
    obtain ⟨b, hb, hbi, hus⟩ := equalIn_sk (P := P) d w h2 a3 a4
    rw [h3'] at hr ⊢
    simp only [Op.eqItems, Sem.run_bind, Nat.mul_one, run_part_one h1 hus a1, run_part_one h1 hus a2, Result.andThen_ok, hb]
    cases b with
    | true => exact ⟨r, by simpa using hr, by rw [hi]; have := hbi.1 rfl; simp [this]⟩
    | false => exact ⟨false, by simp, by simp; exact fun e => absurd (hbi.2 e) (by simp)⟩
theorem i3c : flatB Tryz.prog 3 (.int .i64) = true := by kernel_rfl
theorem q4_get (x : Q4) : ∀ i ∈ List.range 4, ∃ n : Int, (#[.int .i64 x.a, .int .i64 x.b, .int .i64 x.c, .int .i64 x.d] : Array Value)[i]? = some (.int .i64 n) /\ n = [x.a, x.b, x.c, x.d].getD i 0 := fun i hi => by
  have := List.mem_range.1 hi
  rcases (by omega : i = 0 ∨ i = 1 ∨ i = 2 ∨ i = 3) with rfl | rfl | rfl | rfl <;> exact ⟨_, rfl, rfl⟩
theorem q4_ne (x y : Q4) (a b : Operand) (w : World) : (eqS .neq 103 a b (.agg #[.int .i64 x.a, .int .i64 x.b, .int .i64 x.c, .int .i64 x.d]) (.agg #[.int .i64 y.a, .int .i64 y.b, .int .i64 y.c, .int .i64 y.d])).run Tryz.prog w = .ok (.bool (!decide (x = y))) w := by
  obtain ⟨r, hr, hi⟩ := eqItems_sk 9998 i3c #[.int .i64 x.a, .int .i64 x.b, .int .i64 x.c, .int .i64 x.d] #[.int .i64 y.a, .int .i64 y.b, .int .i64 y.c, .int .i64 y.d] (fun i => .int .i64 ([x.a, x.b, x.c, x.d].getD i 0)) (fun i => .int .i64 ([y.a, y.b, y.c, y.d].getD i 0)) w (List.range 4) fun i hi => by
    obtain ⟨n, h1, h2⟩ := q4_get x i hi
    obtain ⟨m, h3, h4⟩ := q4_get y i hi
    exact ⟨by rw [h1, h2], by rw [h3, h4], rfl, rfl⟩
  obtain ⟨i, hii, _⟩ := info_parts info3a
  have hd : r = decide (x = y) := by
    have : r = true ↔ x = y := by
      rw [hi]
      obtain ⟨a, b, c, d⟩ := x
      obtain ⟨a', b', c', d'⟩ := y
      simp [List.range_succ]
    cases r with
    | true => rw [decide_eq_true (this.1 rfl)]
    | false => rw [decide_eq_false fun h => by have := this.2 h; cases this]
  subst hd
  refine neS_run (r := decide (x = y)) (run_eqGuard_agg w .neq 103 a b _ _ guard103) (by simp only [binOp]; simp [Op.equal, Op.maxDepth]) ?_
  rw [run_equalIn_array w 9999 _ _ u103a hii]
  exact hr
end Go.Proofs.YtnigfiljenfgjaaGreat

/- Contracts of the library at this dump: maps.Clone, laid by the shelf. No condition. -/
namespace Go.Proofs
open Go.Shelf
def Tryz.mapsClone_ren : Go.Shelf.Ren := ⟨fun | 5 => 61 | 7 => 105 | n => n, fun | 23 => 63 | 25 => 92 | 3 => 89 | 4 => 4 | 20 => 20 | n => n, fun | n => n⟩
theorem Tryz.mapsClone : Go.Proofs.SlLaysW.n5 Tryz.prog Tryz.mapsClone_ren := {
  mixed := by kernel_rfl
  f5 := ⟨Tryz.f61.name, by decide, Tryz.func61.trans (congrArg some (by kernel_rfl))⟩
  f7 := Tryz.func105.trans (congrArg some (by kernel_rfl))
  t4 := Tryz.underlying4
  a4 := Tryz.isAgg4
  z4 := Tryz.sizeOf4
  v4 := Tryz.zeroValue4
  t20 := Tryz.underlying20
  a20 := Tryz.isAgg20
  z20 := Tryz.sizeOf20
  v20 := Tryz.zeroValue20
  t23 := Tryz.underlying63
  a23 := Tryz.isAgg63
  z23 := Tryz.sizeOf63
  v23 := Tryz.zeroValue63 }
end Go.Proofs

/- The disk: what the library's functions do with rows and maps when systems are copied and held against each other. No condition but those stated. -/
set_option maxRecDepth 100000
set_option linter.unusedVariables false
set_option linter.unusedSimpArgs false
namespace Go.Proofs.YtnigfiljenfgjaaGreat
open Go.Sh Go.RowKit
variable {w w' : World}
theorem u8_ne (x y : UInt8) : (((x.toNat : Nat) : Int) != ((y.toNat : Nat) : Int)) = !decide (x = y) := by
  by_cases h : x = y
  · subst h; simp
  · have : x.toNat ≠ y.toNat := fun e => h (UInt8.toNat_inj.1 e)
    rw [decide_eq_false h]
    simp only [bne_iff_ne, ne_eq, Bool.not_false]
    omega
theorem equalB_c {s t : SV} {a b : List UInt8} (ha : RowAt w 5 1 s (a.map u8V)) (hb : RowAt w 5 1 t (b.map u8V)) (hs : a.length <= 1000000) : Calls Tryz.prog 59 #[.slice s.a s.len s.cap, .slice t.a t.len t.cap] w fun e w' => e = .returned (.bool (decide (a = b))) /\ Pu w w' := by
  have h1 := u8V_map_len a ha
  have h2 := u8V_map_len b hb
  refine F59_calls _ _ w _ (Br.of (fun d => ?_) (fun d => ?_))
  · have : a ≠ b := fun e => by subst e; rw [h1, h2] at d; simp at d
    exact ⟨by rw [decide_eq_false this], Pu.refl w⟩
  have hl : a.length = b.length := by
    rw [h1, h2] at d
    have : ((a.length : Nat) : Int) = b.length := by simpa using d
    omega
  refine loopUp a.length (fun k x w' => x = (k : Int) /\ Pu w w' /\ ∀ (j : Nat) x y, j < k -> a[j]? = some x -> b[j]? = some y -> x = y) ⟨rfl, Pu.refl w, fun j x y hj => absurd hj (by omega)⟩ ?_
  rintro k J _ w1 hk ⟨rfl, hp1, hall⟩ hJ
  refine Br.of (fun d1 => ?_) (fun d1 => ?_)
  · have hkn : k < a.length := by have := dtrue d1; omega
    obtain ⟨x, hx⟩ := at_k hkn
    obtain ⟨y, hy⟩ := at_k (l := b) (k := k) (by omega)
    refine dwE_intro fun w2 hp2 _ => ?_
    obtain ⟨p, hp, hc, _⟩ := ((ha.pu hp1).pu hp2).cell (j := k) (v := u8V x) (by rw [List.getElem?_map, hx]; rfl)
    obtain ⟨q, hq, hg, _⟩ := ((hb.pu hp1).pu hp2).cell (j := k) (v := u8V y) (by rw [List.getElem?_map, hy]; rfl)
    refine ⟨p, hp, by omega, by omega, _, by rw [Int.toNat_natCast, Nat.mul_one]; exact hc, q, hq, by omega, by omega, _, by rw [Int.toNat_natCast, Nat.mul_one]; exact hg, ?_⟩
    rw [u8_ne]
    refine Br.of (fun d2 => ?_) (fun d2 => ?_)
    · have : a ≠ b := fun e => by
        subst e
        rw [hx] at hy; cases hy
        simp at d2
      exact ⟨by rw [decide_eq_false this], hp1.trans hp2⟩
    · have hxy : x = y := by simpa using d2
      rw [wrap_in (by omega) (by omega)]
      refine hJ _ _ hkn ⟨rfl, hp1.trans hp2, fun j u v hj hu hv => ?_⟩
      by_cases e : j = k
      · subst e; rw [hx] at hu; rw [hy] at hv; cases hu; cases hv; exact hxy
      · exact hall j u v (by omega) hu hv
  · have hkn : k = a.length := by have := dfalse d1; omega
    subst hkn
    exact ⟨by rw [decide_eq_true (at_all hl fun j x y hj => hall j x y hj)], hp1⟩
theorem equalQ_c {s t : SV} {a b : List Q4} (ha : RowAt w 103 4 s (a.flatMap Q4.cells)) (hb : RowAt w 103 4 t (b.flatMap Q4.cells)) (hs : a.length <= 1000000) : Calls Tryz.prog 60 #[.slice s.a s.len s.cap, .slice t.a t.len t.cap] w fun e w' => e = .returned (.bool (decide (a = b))) /\ Pu w w' := by
  have h1 : s.len = a.length := ha.len Q4.len (by omega)
  have h2 : t.len = b.length := hb.len Q4.len (by omega)
  refine F60_calls _ _ w _ (Br.of (fun d => ?_) (fun d => ?_))
  · have : a ≠ b := fun e => by subst e; rw [h1, h2] at d; simp at d
    exact ⟨by rw [decide_eq_false this], Pu.refl w⟩
  have hl : a.length = b.length := by
    rw [h1, h2] at d
    have : ((a.length : Nat) : Int) = b.length := by simpa using d
    omega
  refine loopUp a.length (fun k x w' => x = (k : Int) /\ Pu w w' /\ ∀ (j : Nat) x y, j < k -> a[j]? = some x -> b[j]? = some y -> x = y) ⟨rfl, Pu.refl w, fun j x y hj => absurd hj (by omega)⟩ ?_
  rintro k J _ w1 hk ⟨rfl, hp1, hall⟩ hJ
  refine Br.of (fun d1 => ?_) (fun d1 => ?_)
  · have hkn : k < a.length := by have := dtrue d1; omega
    obtain ⟨x, hx⟩ := at_k hkn
    obtain ⟨y, hy⟩ := at_k (l := b) (k := k) (by omega)
    refine dwE_intro fun w2 hp2 _ => ?_
    obtain ⟨p, hp, i1, i2, c0, c1, c2, c3⟩ := q4At ((ha.pu hp1).pu hp2) hx
    obtain ⟨q, hq, j1, j2, g0, g1, g2, g3⟩ := q4At ((hb.pu hp1).pu hp2) hy
    refine ⟨p, hp, i1, i2, _, c0, _, c1, _, c2, _, c3, q, hq, j1, j2, _, g0, _, g1, _, g2, _, g3, _, fun wz => q4_ne x y _ _ wz, Br.of (fun d2 => ?_) (fun d2 => ?_)⟩
    · have : a ≠ b := fun e => by
        subst e
        rw [hx] at hy; cases hy
        simp at d2
      exact ⟨by rw [decide_eq_false this], hp1.trans hp2⟩
    · have hxy : x = y := by simpa using d2
      rw [wrap_in (by omega) (by omega)]
      refine hJ _ _ hkn ⟨rfl, hp1.trans hp2, fun j u v hj hu hv => ?_⟩
      by_cases e : j = k
      · subst e; rw [hx] at hu; rw [hy] at hv; cases hu; cases hv; exact hxy
      · exact hall j u v (by omega) hu hv
  · have hkn : k = a.length := by have := dfalse d1; omega
    subst hkn
    exact ⟨by rw [decide_eq_true (at_all hl fun j x y hj => hall j x y hj)], hp1⟩
theorem info95 : (Tryz.prog.info? 95).map (fun i => (i.zero, i.size, i.bytes)) = some (some (.agg #[.int .i64 0, .string ⟨#[]⟩, .int .i64 0, .int .i64 0]), 4, 40) := by kernel_rfl
theorem cloneL_c {s : SV} {l : List Lock} (h : RowAt w 95 4 s (l.flatMap Lock.cells)) (hb : l.length <= 1000000) :
    Calls Tryz.prog 62 #[.slice s.a s.len s.cap] w fun e w' => ∃ t : SV, e = .returned (.slice t.a t.len t.cap) /\ RowAt w' 95 4 t (l.flatMap Lock.cells) /\ Pu w w' /\ ∀ b ∈ blkOf t, w.heap.size <= b := by
  refine F62_calls s w _ ?_
  refine ⟨_, w, eqS_slice_nil u50 _ _ _ _ _ w, ?_⟩
  have hsl : s.len = l.length := h.len Lock.len (by omega)
  refine Br.of (fun hn => ?_) (fun hn => ?_)
  · have : s = ⟨none, 0, 0⟩ := by
      obtain ⟨_, rfl | ⟨g, cur, h3, _⟩⟩ := h
      · rfl
      · rw [h3] at hn; cases hn
    have hl : l = [] := List.eq_nil_of_length_eq_zero (by rw [← hsl, this])
    subst hl
    exact ⟨⟨none, 0, 0⟩, rfl, RowAt.nil _ _ _, Pu.refl w, by simp [blkOf]⟩
  · refine alE_intro fun w1 hw1 => ?_
    have hp1 : Pu w w1 := by rw [hw1]; exact Pu.alloc w _
    have hr0 : RowAt w1 95 4 ⟨some ⟨w.heap.size, 0, none⟩, 0, 0⟩ [] := ⟨rfl, .inr ⟨_, #[], rfl, by rw [hw1]; exact alloc_new w _, Nat.le_refl _, Nat.zero_le _, rfl, rfl⟩⟩
    have h1 := h.pu hp1
    obtain ⟨t, w2, hr, hrow, hf, hblk, _⟩ := row_append_any (P := Tryz.prog) (ty := 65) u50 info95 rfl (by omega) hr0 (A := s.a) (m := s.len) (c := s.cap) (news := l.flatMap Lock.cells) (by rw [flatMap_len Lock.len, hsl]) (fun j x hx => by
      obtain ⟨a', ha', hc', _⟩ := h1.cell hx
      exact ⟨a', ha', hc'⟩) (fun x hx => by
        obtain ⟨y, _, hy⟩ := List.mem_flatMap.1 hx
        simp [Lock.cells] at hy
        rcases hy with rfl | rfl | rfl | rfl <;> rfl) (by show (0 + s.len) * (40 + 1) <= _; omega)
    rw [List.nil_append] at hrow
    refine ⟨t, w2, hr, t, rfl, hrow, hp1.andNew hf fun b hb => by simp [blkOf] at hb; omega, fun b hb => ?_⟩
    rcases hblk b hb with h | h
    · simp [blkOf] at h; omega
    · have := hp1.size; omega
theorem cloneM_c {b : Nat} {l : List (Place × Page)} (h : MapAt w ekP evP b l) :
    Calls Tryz.prog 61 #[.map (some b)] w fun e w' => e = .returned (.map (some w.heap.size)) /\ MapAt w' ekP evP w.heap.size l /\ Pu w w' /\ w'.heap.size = w.heap.size + 1 := by
  obtain ⟨es, clk, h1, h2⟩ := h
  refine Calls.mono (AnyW.maps_Clone Tryz.mapsClone b es clk w h1) ?_
  rintro e w' ⟨rfl, rfl⟩
  exact ⟨rfl, ⟨es, clk, alloc_new w _, h2⟩, Pu.alloc w _, by simp⟩
end Go.Proofs.YtnigfiljenfgjaaGreat

/- The disk: pages and maps held against each other. No condition but those stated. -/
set_option maxRecDepth 100000
set_option linter.unusedVariables false
set_option linter.unusedSimpArgs false
namespace Go.Proofs.YtnigfiljenfgjaaGreat
open Go.Sh Go.RowKit
variable {w w' : World}
def arrF (P : Program) : List Field -> Nat -> List (Nat × SK) -> Bool
  | [], _, [] => true
  | f :: fs, j, (n, k) :: ks => !(f.name == "_") && (Nat.beq f.offset j && ((match P.underlying f.type with
    | some (.array m e) => Nat.beq m n && flatB P e k && (P.info? e).isSome && (P.info? f.type).isSome && Nat.beq (sizeB P f.type) n
    | _ => false) && arrF P fs (j + n) ks))
  | _, _, _ => false
def Kinds (xs : Array Value) : Nat -> List (Nat × SK) -> Prop
  | _, [] => True
  | j, (n, k) :: ks => (∀ i, i < n -> ∃ v, xs[j + i]? = some v /\ skOf v = some k) /\ Kinds xs (j + n) ks
def tot : List (Nat × SK) -> Nat
  | [] => 0
  | (n, _) :: ks => n + tot ks
theorem part_agg {P : Program} {t e : TypeId} {n : Nat} {xs : Array Value} {off : Nat} (hu : P.underlying t = some (.array n e)) (hi : (P.info? t).isSome = true) (w : World) : (part t xs off).run P w = .ok (.agg (xs.extract off (off + sizeB P t))) w := by
  simp [part, isAgg, underlying, hu, run_sizeOf' hi]
theorem arrF_spec {P : Program} (d : Nat) (xs ys : Array Value) (w : World) : ∀ (fs : List Field) (j : Nat) (ks : List (Nat × SK)), arrF P fs j ks = true -> Kinds xs j ks -> Kinds ys j ks ->
    ∃ r, (Op.eqFields (d + 2) xs ys fs).run P w = .ok r w /\ (r = true ↔ ∀ i, j <= i -> i < j + tot ks -> xs[i]? = ys[i]?)
  | [], j, [], _, _, _ => ⟨true, rfl, by simp [tot]; intro i h1 h2; omega⟩
  | f :: fs, j, (n, k) :: ks, h, hx, hy => by
    simp only [arrF, Bool.and_eq_true, Bool.not_eq_true'] at h
    obtain ⟨h1, h2, h3, h4⟩ := h
    have h2 := Nat.eq_of_beq_eq_true h2
    split at h3
    case h_2 => cases h3
    rename_i m e hu
    simp only [Bool.and_eq_true] at h3
    obtain ⟨⟨⟨⟨a1, a2⟩, a3⟩, a4⟩, a5⟩ := h3
    have a1 := Nat.eq_of_beq_eq_true a1
    have a5 := Nat.eq_of_beq_eq_true a5
    subst a1
    obtain ⟨i, hi⟩ := Option.isSome_iff_exists.1 a3
    obtain ⟨r, hr, hri⟩ := arrF_spec (P := P) d xs ys w fs (j + m) ks h4 hx.2 hy.2
    have ex : ∀ (zs : Array Value) i, i < m -> (∃ v, zs[j + i]? = some v /\ skOf v = some k) -> (zs.extract j (j + m))[i]? = some (zs.getD (j + i) undef) /\ skOf (zs.getD (j + i) undef) = some k /\ zs[j + i]? = some (zs.getD (j + i) undef) := fun zs i hi ⟨v, hv, hk⟩ => by
      have hd : zs.getD (j + i) undef = v := by simp [hv]
      have hlt := (Array.getElem?_eq_some_iff.1 hv).1
      rw [hd]
      refine ⟨?_, hk, hv⟩
      rw [Array.getElem?_extract, if_pos (by omega)]; exact hv
    obtain ⟨q, hq, hqi⟩ := eqItems_sk (P := P) d a2 (xs.extract j (j + m)) (ys.extract j (j + m)) (fun i => xs.getD (j + i) undef) (fun i => ys.getD (j + i) undef) w (List.range m) fun i hi => by
      have hi := List.mem_range.1 hi
      obtain ⟨x1, x2, _⟩ := ex xs i hi (hx.1 i hi)
      obtain ⟨y1, y2, _⟩ := ex ys i hi (hy.1 i hi)
      exact ⟨x1, y1, x2, y2⟩
    have hqi2 : q = true ↔ ∀ i, j <= i -> i < j + m -> xs[i]? = ys[i]? := by
      rw [hqi]
      constructor
      · intro h i h1 h2
        obtain ⟨_, _, x3⟩ := ex xs (i - j) (by omega) (hx.1 _ (by omega))
        obtain ⟨_, _, y3⟩ := ex ys (i - j) (by omega) (hy.1 _ (by omega))
        rw [show j + (i - j) = i by omega] at x3 y3
        have := h (i - j) (List.mem_range.2 (by omega))
        rw [show j + (i - j) = i by omega] at this
        rw [x3, y3, this]
      · intro h i hi
        have hi := List.mem_range.1 hi
        obtain ⟨_, _, x3⟩ := ex xs i hi (hx.1 _ hi)
        obtain ⟨_, _, y3⟩ := ex ys i hi (hy.1 _ hi)
        have := h (j + i) (by omega) (by omega)
        rw [x3, y3] at this
        exact Option.some.inj this
    have hn : ¬ f.name = "_" := by simpa using h1
    simp only [Op.eqFields, hn, ne_eq, not_false_eq_true, if_true, Sem.run_bind, part_agg hu a4, Result.andThen_ok, h2, a5]
    rw [run_equalIn_array w (d + 1) _ _ hu hi, hq]
    simp only [Result.andThen_ok]
    cases q with
    | true =>
      refine ⟨r, by simpa using hr, ?_⟩
      rw [hri]
      have hq := hqi2.1 rfl
      constructor
      · intro h i h1 h2
        by_cases h3 : i < j + m
        · exact hq i h1 h3
        · exact h i (by omega) (by simp only [tot] at h2; omega)
      · intro h i h1 h2
        exact h i (by omega) (by simp only [tot]; omega)
    | false =>
      refine ⟨false, by simp, ⟨fun h => (by cases h), fun h => ?_⟩⟩
      exact absurd (hqi2.2 fun i h1 h2 => h i h1 (by simp only [tot]; omega)) (by simp)
theorem page_arr : arrF Tryz.prog (Tryz.prog.fieldsOf 89).toList 0 [(32, .int .u8), (32, .bool), (32, .bool)] = true := by kernel_rfl
theorem page_held : Tryz.prog.stoodInHeld 89 = false := by kernel_rfl
def isStructB (P : Program) (t : TypeId) : Bool := match P.underlying t with
  | some (.struct _) => true
  | _ => false
theorem page_struct : isStructB Tryz.prog 89 = true := by kernel_rfl
theorem guard89 : Tryz.prog.eqGuardType Tryz.prog.depth 89 = false := by kernel_rfl
def PgEq (p q : Page) : Prop := ∀ j, j < 32 -> p.b j = q.b j /\ p.kn j = q.kn j /\ p.di j = q.di j
instance (p q : Page) : Decidable (PgEq p q) := by unfold PgEq; exact inferInstance
theorem kinds_page (p : Page) : Kinds p.cells 0 [(32, .int .u8), (32, .bool), (32, .bool)] :=
  ⟨fun i hi => ⟨_, by rw [Nat.zero_add]; exact p.get_b hi, rfl⟩, fun i hi => ⟨_, by rw [Nat.zero_add]; exact p.get_kn hi, rfl⟩, fun i hi => ⟨_, by rw [Nat.zero_add]; exact p.get_di hi, rfl⟩, trivial⟩
theorem page_ne (p q : Page) (a b : Operand) (w : World) : (eqS .neq 89 a b (.agg p.cells) (.agg q.cells)).run Tryz.prog w = .ok (.bool (!decide (PgEq p q))) w := by
  obtain ⟨r, hr, hri⟩ := arrF_spec (P := Tryz.prog) 9997 p.cells q.cells w _ _ _ page_arr (kinds_page p) (kinds_page q)
  have hd : r = decide (PgEq p q) := by
    have : r = true ↔ PgEq p q := by
      rw [hri]
      constructor
      · intro h j hj
        have e1 := h j (by omega) (by simp [tot]; omega)
        have e2 := h (32 + j) (by omega) (by simp [tot]; omega)
        have e3 := h (64 + j) (by omega) (by simp [tot]; omega)
        rw [p.get_b hj, q.get_b hj] at e1
        rw [p.get_kn hj, q.get_kn hj] at e2
        rw [p.get_di hj, q.get_di hj] at e3
        simp only [u8V, Option.some.injEq, Value.int.injEq, Value.bool.injEq, true_and] at e1 e2 e3
        exact ⟨UInt8.toNat_inj.1 (by omega), e2, e3⟩
      · intro h i _ hi
        simp only [tot] at hi
        by_cases h1 : i < 32
        · rw [p.get_b h1, q.get_b h1, (h i h1).1]
        · by_cases h2 : i < 64
          · have := (h (i - 32) (by omega)).2.1
            rw [show i = 32 + (i - 32) by omega, p.get_kn (by omega), q.get_kn (by omega), this]
          · have := (h (i - 64) (by omega)).2.2
            rw [show i = 64 + (i - 64) by omega, p.get_di (by omega), q.get_di (by omega), this]
    cases r with
    | true => rw [decide_eq_true (this.1 rfl)]
    | false => rw [decide_eq_false fun h => by have := this.2 h; cases this]
  subst hd
  refine neS_run (r := decide (PgEq p q)) (run_eqGuard_agg w .neq 89 a b _ _ guard89) (by simp only [binOp]; simp [Op.equal, Op.maxDepth]) ?_
  have hs := page_struct
  unfold isStructB at hs
  split at hs
  case h_2 => cases hs
  rename_i fs hu
  have hfo : Tryz.prog.fieldsOf 89 = fs := by simp [Program.fieldsOf, hu]
  rw [run_equalIn_struct w 9999 89 _ _ (by rw [hfo]; exact hu) page_held]
  exact hr
end Go.Proofs.YtnigfiljenfgjaaGreat

/- The disk: maps of pages, and maps of rows of bytes, held against each other. No condition but those stated. -/
set_option maxRecDepth 100000
set_option linter.unusedVariables false
set_option linter.unusedSimpArgs false
namespace Go.Proofs.YtnigfiljenfgjaaGreat
open Go.Sh Go.RowKit
variable {w w' : World}
def EqM {κ α β : Type} [DecidableEq κ] (E : α -> β -> Prop) (l0 : List (κ × α)) (l1 : List (κ × β)) : Prop := l0.length = l1.length /\ ∀ q ∈ l0, ∃ v, AL.get l1 q.1 = some v /\ E q.2 v
theorem EqM.not {κ α β : Type} [DecidableEq κ] {E : α -> β -> Prop} {l0 : List (κ × α)} {l1 : List (κ × β)} {q : κ × α} (hq : q ∈ l0) (h : ∀ v, AL.get l1 q.1 = some v -> ¬ E q.2 v) : ¬ EqM E l0 l1 := fun hE => by
  obtain ⟨v, h1, h2⟩ := hE.2 q hq
  exact h v h1 h2
theorem mem_del {κ α : Type} [DecidableEq κ] {l : List (κ × α)} {q : κ × α} {k : κ} (hq : q ∈ l) (hk : q.1 ≠ k) : q ∈ AL.del l k := by
  induction l with
  | nil => cases hq
  | cons a l ih =>
    obtain ⟨x, y⟩ := a
    simp only [AL.del]
    rcases List.mem_cons.1 hq with rfl | hq
    · rw [if_neg hk]; simp
    · split
      · exact hq
      · exact List.mem_cons_of_mem _ (ih hq)
structure Seen {κ α : Type} [DecidableEq κ] (l todo : List (κ × α)) (G : κ × α -> Prop) : Prop where
  sub : ∀ q ∈ todo, q ∈ l
  ok : ∀ q ∈ l, q ∈ todo ∨ G q
theorem Seen.start {κ α : Type} [DecidableEq κ] (l : List (κ × α)) (G : κ × α -> Prop) : Seen l l G := ⟨fun q h => h, fun q h => .inl h⟩
theorem Seen.next {κ α : Type} [DecidableEq κ] {l todo : List (κ × α)} {G : κ × α -> Prop} (h : Seen l todo G) (hl : (l.map Prod.fst).Nodup) {p : κ × α} (hp : p ∈ todo) (hG : G p) : Seen l (AL.del todo p.1) G := by
  refine ⟨fun q hq => h.sub q ?_, fun q hq => ?_⟩
  · revert hq
    generalize todo = t
    induction t with
    | nil => intro h; exact h
    | cons a t ih =>
      obtain ⟨x, y⟩ := a
      simp only [AL.del]
      split
      · exact fun h => List.mem_cons_of_mem _ h
      · intro h
        rcases List.mem_cons.1 h with rfl | h
        · simp
        · exact List.mem_cons_of_mem _ (ih h)
  · by_cases e : q.1 = p.1
    · have : q = p := by
        have h1 := AL.get_of_mem hl (k := q.1) (v := q.2) hq
        have h2 := AL.get_of_mem hl (k := p.1) (v := p.2) (h.sub p hp)
        rw [e, h2] at h1
        obtain ⟨a, b⟩ := q; obtain ⟨c, d⟩ := p
        simp only at e h1
        subst e; simp at h1; rw [h1]
      rw [this]; exact .inr hG
    · rcases h.ok q hq with h1 | h1
      · exact .inl (mem_del h1 e)
      · exact .inr h1
set_option maxHeartbeats 1000000 in
theorem mapsEqual_c {b0 b1 : Nat} {l0 l1 : List (Place × Page)} (h0 : MapAt w ekP evP b0 l0) (h1 : MapAt w ekP evP b1 l1) (hl0 : l0.length <= 1000000) (hl1 : l1.length <= 1000000) :
    Calls Tryz.prog 57 #[.map (some b0), .map (some b1)] w fun e w' => ∃ b : Bool, e = .returned (.bool b) /\ (b = true ↔ EqM PgEq l0 l1) /\ Pu w w' := by
  refine F57_calls _ _ w _ ⟨_, w, h0.len rfl u48, _, w, h1.len rfl u48, Br.of (fun d => ?_) (fun d => ?_)⟩
  · refine ⟨false, rfl, ⟨fun h => (by cases h), fun h => ?_⟩, Pu.refl w⟩
    rw [h.1] at d; simp at d
  have hll : l0.length = l1.length := by
    have : ((l0.length : Nat) : Int) = l1.length := by simpa using d
    omega
  obtain ⟨w1, hr1, hi1, hp1, hs1⟩ := h0.range (t := 63) u48
  refine ⟨_, w1, hr1, ?_⟩
  refine loopDown l0.length (fun m _ w' => ∃ todo : List (Place × Page), todo.length = m /\ IterAt w' ekP evP w.heap.size b0 l0 todo /\ Seen l0 todo (fun q => ∃ v, AL.get l1 q.1 = some v /\ PgEq q.2 v) /\ Pu w w') ⟨l0, rfl, hi1, Seen.start _ _, hp1⟩ ?_
  rintro m J _ w2 ⟨todo, hm, hit, hseen, hp2⟩ hJ
  rcases hit.next (P := Tryz.prog) 0 with ⟨hnil, hr⟩ | ⟨p, hpm, w3, hr, hf3, hs3, hit3, hen⟩
  · refine .inl ⟨w2, hr, true, rfl, ⟨fun _ => ⟨hll, fun q hq => ?_⟩, fun _ => rfl⟩, hp2⟩
    subst hnil
    rcases hseen.ok q hq with h | h
    · cases h
    · exact h
  · refine .inr ⟨ekP p.1, evP p.2, w3, hr, ekP p.1, evP p.2, w3, hen, ?_⟩
    have hsz := hp2.size
    have hltr := hit.ltr
    have hp3 : Pu w w3 := hp2.andNew hf3 fun i hi => by rw [hi]; exact Nat.le_refl _
    simp only [ekP, evP, dAgg_mk, dHd_mk, dStr_mk, dInt_mk, dNil_mk, dRow_mk]
    refine alE_intro fun w4 hw4 => ?_
    have hp4 : Pu w3 w4 := by rw [hw4]; exact Pu.alloc w3 _
    have hb4 : w4.heap[w3.heap.size]? = some (.cells #[.string (⟨#[]⟩ : ByteArray), .int .i64 0] 92) := by rw [hw4]; exact alloc_new w3 _
    have hz4 : w4.heap.size = w3.heap.size + 1 := by rw [hw4]; simp
    refine alE_intro fun w5 hw5 => ?_
    have hp5 : Pu w4 w5 := by rw [hw5]; exact Pu.alloc w4 _
    have hb5 : w5.heap[w4.heap.size]? = some (.cells (zc Tryz.prog 89) 89) := by rw [hw5]; exact alloc_new w4 _
    refine stA_fill (hp5.blk hb4) (by rw [size66]; rfl) rfl rfl fun w6 hb6 hf6 hs6 => ?_
    refine stA_fill (hf6.blk hb5 (by omega)) ((Page.size_cells _).trans size61.symm) (by rw [zero61]; exact (Page.size_cells _).trans (Page.size_cells _).symm) (Page.one _) fun w7 hb7 hf7 hs7 => ?_
    have hb6' := hf7.blk hb6 (by omega)
    have hp37 : Pu w3 w7 := ((hp4.trans hp5).andNew hf6 fun i hi => by omega).andNew hf7 fun i hi => by omega
    have h17 : MapAt w7 ekP evP b1 l1 := (h1.pu hp3).pu hp37
    have hlk := h17.look keysP u48 (zval61 w7) p.1 true
    refine ⟨p.1.1, by rw [add_def, cell_blk hb6']; rfl, p.1.2, by rw [add_def, cell_blk hb6']; rfl, ?_⟩
    have hpl := hseen.sub p hpm
    cases hg : AL.get l1 p.1 with
    | none =>
      rw [hg] at hlk
      refine ⟨Page.zero.cells, Page.size_cells _, false, w7, hlk, ?_⟩
      refine alE_intro fun w8 hw8 => ?_
      have hp8 : Pu w7 w8 := by rw [hw8]; exact Pu.alloc w7 _
      have hb8 : w8.heap[w7.heap.size]? = some (.cells (zc Tryz.prog 89) 89) := by rw [hw8]; exact alloc_new w7 _
      refine stA_fill hb8 ((Page.size_cells _).trans size61.symm) (by rw [zero61]) (Page.one _) fun w9 hb9 hf9 hs9 => ?_
      refine ⟨false, rfl, ⟨fun h => (by cases h), fun h => ?_⟩, (hp3.trans hp37).trans (hp8.andNew hf9 fun i hi => by omega)⟩
      exact absurd h (EqM.not hpl fun v hv => by rw [hg] at hv; cases hv)
    | some v =>
      rw [hg] at hlk
      refine ⟨v.cells, Page.size_cells _, true, w7, hlk, ?_⟩
      refine alE_intro fun w8 hw8 => ?_
      have hp8 : Pu w7 w8 := by rw [hw8]; exact Pu.alloc w7 _
      have hb8 : w8.heap[w7.heap.size]? = some (.cells (zc Tryz.prog 89) 89) := by rw [hw8]; exact alloc_new w7 _
      refine stA_fill hb8 ((Page.size_cells _).trans size61.symm) (by rw [zero61]; exact (Page.size_cells _).trans (Page.size_cells _).symm) (Page.one _) fun w9 hb9 hf9 hs9 => ?_
      have hp79 : Pu w7 w9 := hp8.andNew hf9 fun i hi => by omega
      have hb79 := hp79.blk hb7
      have hall := (hp3.trans hp37).trans hp79
      refine ⟨p.2.cells, Page.size_cells _, fun i hi => by rw [add_def, cell_blk hb79, Nat.zero_add], v.cells, Page.size_cells _, fun i hi => by rw [add_def, cell_blk hb9, Nat.zero_add], _, w9, page_ne p.2 v _ _ w9, Br.of (fun d2 => ?_) (fun d2 => ?_)⟩
      · refine ⟨false, rfl, ⟨fun h => (by cases h), fun h => ?_⟩, hall⟩
        refine absurd h (EqM.not hpl fun v' hv => ?_)
        rw [hg] at hv; cases hv
        simpa using d2
      · have hE : PgEq p.2 v := by simpa using d2
        have hlen := AL.length_del hpm hit.nodup
        refine hJ _ _ _ (by omega) ⟨AL.del todo p.1, rfl, ?_, hseen.next hit.map.nodup hpm ⟨v, hg, hE⟩, hall⟩
        exact hit3.fr (Fr.pu (hp37.trans hp79) : Fr (fun _ => False) w3 w9) (fun h => h) (fun h => h)
theorem mapsEqualF_c {b0 b1 : Nat} {fs gs : List (ByteArray × SV)} {bs cs : List (ByteArray × List UInt8)} (h0 : MapAt w ekS evS b0 fs) (h1 : MapAt w ekS evS b1 gs) (hfs : FilesAt w fs bs) (hgs : FilesAt w gs cs)
    (hl0 : fs.length <= 1000000) (hl1 : gs.length <= 1000000) (hsm : ∀ q ∈ bs, q.2.length <= 1000000) :
    Calls Tryz.prog 58 #[.map (some b0), .map (some b1), .func (.func 59) #[] #[]] w fun e w' => ∃ b : Bool, e = .returned (.bool b) /\ (b = true ↔ EqM (fun x y => x = y) bs cs) /\ Pu w w' := by
  have e0 := hfs.length
  have e1 := hgs.length
  refine F58_calls _ _ _ w _ ⟨_, w, h0.len rfl u40, _, w, h1.len rfl u40, Br.of (fun d => ?_) (fun d => ?_)⟩
  · refine ⟨false, rfl, ⟨fun h => (by cases h), fun h => ?_⟩, Pu.refl w⟩
    rw [e0, e1, h.1] at d; simp at d
  have hll : bs.length = cs.length := by
    have : ((fs.length : Nat) : Int) = gs.length := by simpa using d
    omega
  obtain ⟨w1, hr1, hi1, hp1, hs1⟩ := h0.range (t := 55) u40
  refine ⟨_, w1, hr1, ?_⟩
  have hnd : (fs.map Prod.fst).Nodup := h0.nodup
  refine loopDown fs.length (fun m _ w' => ∃ todo : List (ByteArray × SV), todo.length = m /\ IterAt w' ekS evS w.heap.size b0 fs todo /\ Seen fs todo (fun q => ∃ x, AL.get bs q.1 = some x /\ AL.get cs q.1 = some x) /\ Pu w w') ⟨fs, rfl, hi1, Seen.start _ _, hp1⟩ ?_
  rintro m J _ w2 ⟨todo, hm, hit, hseen, hp2⟩ hJ
  have key : ∀ (l : List (ByteArray × SV)) (k : List (ByteArray × List UInt8)), FilesAt w l k -> ∀ q ∈ k, ∃ s, (q.1, s) ∈ l := fun l => by
    induction l with
    | nil => intro k hk q hq; cases k with
      | nil => cases hq
      | cons a k => exact hk.elim
    | cons p l ih => intro k hk q hq; cases k with
      | nil => cases hq
      | cons a k =>
        obtain ⟨a1, a2, a3⟩ := hk
        rcases List.mem_cons.1 hq with rfl | hq
        · exact ⟨p.2, by rw [← a1]; simp⟩
        · obtain ⟨s, hs⟩ := ih k a3 q hq; exact ⟨s, List.mem_cons_of_mem _ hs⟩
  have hbn : (bs.map Prod.fst).Nodup := by rw [← FilesAt.keys hfs]; exact hnd
  rcases hit.next (P := Tryz.prog) 0 with ⟨hnil, hr⟩ | ⟨p, hpm, w3, hr, hf3, hs3, hit3, hen⟩
  · refine .inl ⟨w2, hr, true, rfl, ⟨fun _ => ⟨hll, fun q hq => ?_⟩, fun _ => rfl⟩, hp2⟩
    subst hnil
    obtain ⟨s, hs⟩ := key fs bs hfs q hq
    rcases hseen.ok _ hs with h | ⟨x, h1, h2⟩
    · cases h
    · rw [AL.get_of_mem hbn hq] at h1
      cases h1
      exact ⟨_, h2, rfl⟩
  · refine .inr ⟨ekS p.1, evS p.2, w3, hr, ekS p.1, evS p.2, w3, hen, ?_⟩
    have hp3 : Pu w w3 := hp2.andNew hf3 fun i hi => by rw [hi]; exact Nat.le_refl _
    have hpl := hseen.sub p hpm
    simp only [ekS, evS, dStr_mk, dSl_mk]
    have hlk := (h1.pu hp3).look keysS u40 (zval29 w3) p.1 true
    have hfg := AL.get_of_mem hnd (k := p.1) (v := p.2) hpl
    obtain ⟨s, x, g1, g2, g3, g4⟩ := (hfs.get p.1).resolve_left fun h => by rw [hfg] at h; cases h.1
    rw [hfg] at g1; cases g1
    rcases hgs.get p.1 with ⟨k1, k2⟩ | ⟨t, y, k1, k2, k3, k4⟩
    · rw [k1] at hlk
      refine ⟨⟨none, 0, 0⟩, false, w3, hlk, ?_⟩
      refine ⟨false, rfl, ⟨fun h => (by cases h), fun h => ?_⟩, hp3⟩
      exact absurd h (EqM.not (AL.get_mem g2) fun v hv => by rw [k2] at hv; cases hv)
    · rw [k1] at hlk
      refine ⟨t, true, w3, hlk, ?_⟩
      refine ⟨by kernel_rfl, ?_⟩
      refine Calls.mono (equalB_c (g3.pu hp3) (k3.pu hp3) (hsm _ (AL.get_mem g2))) ?_
      rintro e w4 ⟨rfl, hp4⟩
      refine ⟨_, rfl, Br.of (fun d2 => ?_) (fun d2 => ?_)⟩
      · refine ⟨false, rfl, ⟨fun h => (by cases h), fun h => ?_⟩, hp3.trans hp4⟩
        refine absurd h (EqM.not (AL.get_mem g2) fun v hv => ?_)
        rw [k2] at hv; cases hv
        simpa using d2
      · have hE : x = y := by simpa using d2
        subst hE
        have hlen := AL.length_del hpm hit.nodup
        refine hJ _ _ _ (by omega) ⟨AL.del todo p.1, rfl, ?_, hseen.next hnd hpm ⟨x, g2, k2⟩, hp3.trans hp4⟩
        exact hit3.fr (Fr.pu hp4 : Fr (fun _ => False) w3 w4) (fun h => h) (fun h => h)
end Go.Proofs.YtnigfiljenfgjaaGreat

/- Contracts of the library at this dump: slices.SortFunc at rows of four numbers, laid by the shelf. No condition. -/
namespace Go.Proofs
open Go.Shelf
def Tryz.sortQ_ren : Go.Shelf.Ren := ⟨fun | 6 => 54 | 15 => 103 | 14 => 102 | 28 => 132 | 29 => 133 | 20 => 124 | 21 => 125 | 22 => 126 | 23 => 127 | 24 => 128 | 25 => 129 | 26 => 130 | 27 => 131 | 46 => 160 | 47 => 161 | 48 => 162 | 49 => 163 | 50 => 164 | 57 => 172 | n => n, fun | 22 => 44 | 24 => 103 | 25 => 106 | 3 => 3 | 39 => 144 | 0 => 0 | 53 => 58 | 55 => 175 | 4 => 4 | 46 => 167 | 45 => 166 | 50 => 171 | 5 => 5 | 9 => 9 | 66 => 193 | 70 => 197 | 76 => 203 | 77 => 204 | n => n, fun | n => n⟩
theorem Tryz.sortQ : Go.Proofs.SlLaysF0.n6 Tryz.prog Tryz.sortQ_ren := {
  mixed := by kernel_rfl
  f6 := ⟨Tryz.f54.name, by decide, Tryz.func54.trans (congrArg some (by kernel_rfl))⟩
  f14 := ⟨Tryz.f102.name, by decide, Tryz.func102.trans (congrArg some (by kernel_rfl))⟩
  f15 := Tryz.func103.trans (congrArg some (by kernel_rfl))
  f20 := ⟨Tryz.f124.name, by decide, Tryz.func124.trans (congrArg some (by kernel_rfl))⟩
  f21 := ⟨Tryz.f125.name, by decide, Tryz.func125.trans (congrArg some (by kernel_rfl))⟩
  f22 := ⟨Tryz.f126.name, by decide, Tryz.func126.trans (congrArg some (by kernel_rfl))⟩
  f23 := ⟨Tryz.f127.name, by decide, Tryz.func127.trans (congrArg some (by kernel_rfl))⟩
  f24 := ⟨Tryz.f128.name, by decide, Tryz.func128.trans (congrArg some (by kernel_rfl))⟩
  f25 := ⟨Tryz.f129.name, by decide, Tryz.func129.trans (congrArg some (by kernel_rfl))⟩
  f26 := ⟨Tryz.f130.name, by decide, Tryz.func130.trans (congrArg some (by kernel_rfl))⟩
  f27 := ⟨Tryz.f131.name, by decide, Tryz.func131.trans (congrArg some (by kernel_rfl))⟩
  f28 := Tryz.func132.trans (congrArg some (by kernel_rfl))
  f29 := Tryz.func133.trans (congrArg some (by kernel_rfl))
  f46 := ⟨Tryz.f160.name, by decide, Tryz.func160.trans (congrArg some (by kernel_rfl))⟩
  f47 := Tryz.func161.trans (congrArg some (by kernel_rfl))
  f48 := Tryz.func162.trans (congrArg some (by kernel_rfl))
  f49 := ⟨Tryz.f163.name, by decide, Tryz.func163.trans (congrArg some (by kernel_rfl))⟩
  f50 := ⟨Tryz.f164.name, by decide, Tryz.func164.trans (congrArg some (by kernel_rfl))⟩
  f57 := ⟨Tryz.f172.name, by decide, Tryz.func172.trans (congrArg some (by kernel_rfl))⟩
  t0 := Tryz.underlying0
  a0 := Tryz.isAgg0
  z0 := Tryz.sizeOf0
  v0 := Tryz.zeroValue0
  t3 := Tryz.underlying3
  a3 := Tryz.isAgg3
  z3 := Tryz.sizeOf3
  v3 := Tryz.zeroValue3
  t4 := Tryz.underlying4
  a4 := Tryz.isAgg4
  z4 := Tryz.sizeOf4
  v4 := Tryz.zeroValue4
  t5 := Tryz.underlying5
  a5 := Tryz.isAgg5
  z5 := Tryz.sizeOf5
  v5 := Tryz.zeroValue5
  t9 := Tryz.underlying9
  a9 := Tryz.isAgg9
  z9 := Tryz.sizeOf9
  v9 := Tryz.zeroValue9
  t22 := Tryz.underlying44
  a22 := Tryz.isAgg44
  z22 := Tryz.sizeOf44
  v22 := Tryz.zeroValue44
  t25 := Tryz.underlying106
  a25 := Tryz.isAgg106
  z25 := Tryz.sizeOf106
  v25 := Tryz.zeroValue106
  t39 := Tryz.underlying144
  a39 := Tryz.isAgg144
  z39 := Tryz.sizeOf144
  v39 := Tryz.zeroValue144
  t45 := Tryz.underlying166
  a45 := Tryz.isAgg166
  z45 := Tryz.sizeOf166
  v45 := Tryz.zeroValue166
  t46 := Tryz.underlying167
  a46 := Tryz.isAgg167
  z46 := Tryz.sizeOf167
  v46 := Tryz.zeroValue167
  t50 := Tryz.underlying171
  a50 := Tryz.isAgg171
  z50 := Tryz.sizeOf171
  v50 := Tryz.zeroValue171
  t53 := Tryz.underlying58
  a53 := Tryz.isAgg58
  z53 := Tryz.sizeOf58
  v53 := Tryz.zeroValue58
  t55 := Tryz.underlying175
  a55 := Tryz.isAgg175
  z55 := Tryz.sizeOf175
  v55 := Tryz.zeroValue175
  t66 := Tryz.underlying193
  a66 := Tryz.isAgg193
  z66 := Tryz.sizeOf193
  v66 := Tryz.zeroValue193
  t70 := Tryz.underlying197
  a70 := Tryz.isAgg197
  z70 := Tryz.sizeOf197
  v70 := Tryz.zeroValue197
  t76 := Tryz.underlying203
  a76 := Tryz.isAgg203
  z76 := Tryz.sizeOf203
  v76 := Tryz.zeroValue203
  t77 := Tryz.underlying204
  a77 := Tryz.isAgg204
  z77 := Tryz.sizeOf204
  v77 := Tryz.zeroValue204 }
end Go.Proofs

/- The disk: rows of four numbers sorted by the library. No condition but those stated. -/
set_option maxRecDepth 100000
set_option linter.unusedVariables false
set_option linter.unusedSimpArgs false
namespace Go.Proofs.YtnigfiljenfgjaaGreat
open Go.Sh Go.RowKit Go.Sort
variable {w w' : World}
theorem flatK_eq (l : List Q4) : flatK Q4.cells 4 l.toArray = (l.flatMap Q4.cells).toArray := by
  have hsz := flatMap_len Q4.len l
  refine ext_get! (by rw [size_flatK]; simp [hsz]) fun t ht => ?_
  rw [size_flatK] at ht
  have ht : t < l.length * 4 := by simpa using ht
  rw [get_flatK Q4.cells 4 l.toArray t (by simpa using ht)]
  obtain ⟨x, hx⟩ := at_k (l := l) (k := t / 4) (by omega)
  have h1 : l.toArray[t / 4]! = x := by simp [hx]
  have h2 := flatMap_at Q4.len hx (t % 4) (by omega)
  rw [show t / 4 * 4 + t % 4 = t by omega] at h2
  rw [h1]
  have h3 : (l.flatMap Q4.cells).toArray[t]? = (Q4.cells x)[t % 4]? := by rw [List.getElem?_toArray]; exact h2
  rw [getElem!_def, getElem!_def, h3]
theorem holdsQ {g : Nat} {cur : Array Value} {e : TypeId} {l : List Q4} (hb : w.heap[g]? = some (.cells cur e (0, 0))) (ht : cur.toList.take (l.length * 4) = l.flatMap Q4.cells) : HoldsK Q4.cells 4 w g 0 l.toArray := by
  unfold HoldsK
  rw [flatK_eq]
  have hsz := flatMap_len Q4.len l
  intro j hj
  have hj' : j < (l.flatMap Q4.cells).length := by simpa using hj
  refine ⟨?_, by simp [World.frozen?, hb]⟩
  have h1 : (cur.toList.take (l.length * 4))[j]? = (l.flatMap Q4.cells)[j]? := by rw [ht]
  rw [List.getElem?_take_of_lt (by omega), Array.getElem?_toList] at h1
  simp only [World.cell?, hb, Nat.zero_add, Option.isSome_none, Bool.false_eq_true, if_false]
  rw [h1, List.getElem?_eq_getElem hj', getElem!_pos _ j (by simpa using hj')]
  simp
theorem take_putCells_id (cur : Array Value) (ts : List Value) (h : ts.length <= cur.size) : (putCells id 0 ts.toArray cur).toList.take ts.length = ts := by
  apply List.ext_getElem?
  intro j
  by_cases hj : j < ts.length
  · rw [List.getElem?_take_of_lt hj, Array.getElem?_toList]
    simp [putCells, hj, show j < cur.size by omega]
  · rw [List.getElem?_take_eq_none (by omega), List.getElem?_eq_none (by omega)]
theorem sortQ_c {s : SV} {l : List Q4} (h : RowAt w 103 4 s (l.flatMap Q4.cells)) (hl : l.length <= 1000000) :
    Calls Tryz.prog 54 #[.slice s.a s.len s.cap, .func (.func 55) #[] #[]] w fun e w' => e = .returned (.tuple #[]) /\ ∃ q : List Q4, q.Perm l /\ SrtQ q /\ RowAt w' 103 4 s (q.flatMap Q4.cells) /\ Fr (· ∈ blkOf s) w w' := by
  have hlen : s.len = l.length := h.len Q4.len (by omega)
  have hs := h
  obtain ⟨h1, rfl | ⟨g, cur, h3, h4, h5, h6, h7, h8⟩⟩ := h
  · have hl0 : l = [] := List.eq_nil_of_length_eq_zero (by simpa using hlen.symm)
    subst hl0
    refine Calls.mono (AnyF.slices_SortFunc_none Tryz.sortQ none 0 (.func (.func 55) #[] #[]) w) ?_
    rintro e w' ⟨rfl, rfl⟩
    exact ⟨rfl, [], .refl _, List.Pairwise.nil, hs, Fr.refl _ _⟩
  · have hH := holdsQ h4 (by rw [← hlen]; exact h8)
    have eg : ∀ args w, (callFunc 55 args).run Tryz.prog w = .ok (.enter 55 args) w := enters_of Tryz.func55 (by kernel_rfl) rfl
    have key := AnyQ.slices_SortFunc Tryz.sortQ 4 Tryz.isAgg103 Tryz.sizeOf103 Q4.cells (fun _ => rfl) (fun x v hv => by simp [Q4.cells] at hv; rcases hv with rfl | rfl | rfl | rfl <;> rfl) cmpQ swoQ 55 #[] g 0 s.cap l.toArray w eg (cmpLaysQ g 0 l.toArray.size w) hH (blk_lt h4) (by simp; omega)
    rw [h3]
    have hsz0 : l.toArray.size = s.len := by rw [hlen]; simp
    rw [hsz0] at key
    change Calls Tryz.prog 54 _ _ _ at key
    refine Calls.mono key ?_
    rintro e w' ⟨rfl, d', n, os, hp, hso, rfl⟩
    obtain ⟨q, rfl⟩ : ∃ q : List Q4, d' = q.toArray := ⟨d'.toList, by simp⟩
    rw [← hsz0] at hp hso
    obtain ⟨hp1, _, hp2⟩ := hp
    have hql : q.length = l.length := by simpa using hp1
    have hperm : q.Perm l := by
      have e1 : (q.toArray.extract 0 l.toArray.size).toList = q := by simp; rw [← hql, List.take_length]
      have e2 : (l.toArray.extract 0 l.toArray.size).toList = l := by simp
      rwa [e1, e2] at hp2
    have hsz := flatMap_len Q4.len q
    refine ⟨rfl, q, hperm, ?_, ?_, ?_⟩
    · refine List.pairwise_iff_getElem.2 fun i j hi hj hij => ?_
      have h9 := hso i j (Nat.zero_le _) hij (by simp; omega)
      rw [ltQ] at h9
      have ei : q.toArray[i]! = q[i] := by simp [hi]
      have ej : q.toArray[j]! = q[j] := by simp [hj]
      rwa [ei, ej] at h9
    · have hblk : (sortWorldK Q4.cells 4 w g 0 n q.toArray os).heap[g]? = some (.cells (putCells id 0 (q.flatMap Q4.cells).toArray cur) 103 (0, 0)) := by
        unfold sortWorldK putRowK
        rw [flatK_eq, heap_grow_old _ _ (by have := blk_lt h4; simpa using this)]
        simp [putRow, mapBlock, Sort.ahead, Array.getElem?_modify, h4, onCells]
      refine ⟨by rw [hsz]; omega, .inr ⟨g, _, h3, hblk, h5, h6, by simpa [putCells] using h7, ?_⟩⟩
      have ht := take_putCells_id cur (q.flatMap Q4.cells) (by rw [hsz]; omega)
      rw [hsz] at ht
      rw [hlen, ← hql]; exact ht
    · unfold sortWorldK putRowK
      refine ⟨rfl, rfl, rfl, by simp, fun k hk hn => ?_⟩
      rw [heap_grow_old _ _ (by simpa using hk)]
      have : g ≠ k := fun e => hn (by cases e; simp [blkOf, h3])
      simp [putRow, mapBlock, Sort.ahead, Array.getElem?_modify, this]
end Go.Proofs.YtnigfiljenfgjaaGreat

/- The disk: its locks, listed in order. No condition but those stated. -/
set_option maxRecDepth 100000
set_option linter.unusedVariables false
set_option linter.unusedSimpArgs false
namespace Go.Proofs.YtnigfiljenfgjaaGreat
open Go.Sh Go.RowKit
variable {w w' : World}
theorem size95 : sizeB Tryz.prog 95 = 4 := by kernel_rfl
theorem locks_c {w : World} {d : Lay} {σ : Sys} (h : SysAt w d 0 σ) (hN : σ.files.length <= 1000) (hl : σ.locks.length <= 1000) :
    Calls Tryz.prog 18 #[d.ptr] w fun e w' => ∃ (l : SV) (q : List Q4), e = .returned (.slice l.a l.len l.cap) /\ Left w w' d d σ /\ RowAt w' 103 4 l (q.flatMap Q4.cells) /\ SrtQ q /\ q.Perm (σ.locks.map (rowQ (srt (σ.files.map Prod.fst)))) /\ ∀ b ∈ blkOf l, w.heap.size <= b := by
  refine F18_calls _ w _ (Calls.mono (listFiles_c h hN) ?_)
  rintro e w1 ⟨sn, rfl, L1, hnames, hnb⟩
  have h1 := L1.sys
  refine ⟨sn, rfl, false, w1, eqS_ptr_nil u23 _ _ _ w1, Br.f rfl ?_⟩
  show Calls Tryz.prog 46 #[.pointer (some ⟨d.S, 0, none⟩)] w1 _
  refine Calls.mono (muLock (by rw [h1.cellS]; rfl) (frozen_blk h1.st 0)) ?_
  rintro e w2 ⟨rfl, hw2⟩
  have h2 : SysAt w2 d 1 σ := by rw [hw2]; exact h1.setMu 1
  have hf2 : Fr (· = d.S) w1 w2 := by rw [hw2]; exact Fr.setCell w1 ⟨d.S, 0, none⟩ _
  have hz1 := L1.fr.size
  have hz2 := hf2.size
  have hSlt := h.lt _ (mem_S d)
  have hnames2 : RowAt w2 9 1 sn (strV (srt (σ.files.map Prod.fst))) := hnames.fr hf2 fun b hb hx => by have := hnb b hb; have hx : b = d.S := hx; omega
  have hnl : (srt (σ.files.map Prod.fst)).length <= 1000000 := by rw [(srt_perm _).length_eq, List.length_map]; omega
  have hfr2 : Fr (· ∈ d.own) w w2 := L1.fr.trans (hf2.mono fun i hi _ => by rw [show i = d.S from hi]; exact mem_S d : Fr (· ∈ d.own) w1 w2) fun i hi _ => hi
  refine ⟨rfl, d.ls, h2.cellL, ?_⟩
  have hll := h2.lk.len Lock.len (by omega)
  refine loopUp σ.locks.length (fun k t w' => t.2 = (k : Int) /\ RowAt w' 103 4 t.1 (((σ.locks.take k).map (rowQ (srt (σ.files.map Prod.fst)))).flatMap Q4.cells) /\ (∀ b ∈ blkOf t.1, w2.heap.size <= b) /\ Pu w2 w') ⟨rfl, RowAt.nil _ _ _, by simp [blkOf], Pu.refl _⟩ ?_
  rintro k J ⟨s, t⟩ w3 hk ⟨ht, hrow, hb, hp⟩ hJ
  obtain rfl : t = (k : Int) := ht
  have hrow : RowAt w3 103 4 s (((σ.locks.take k).map (rowQ (srt (σ.files.map Prod.fst)))).flatMap Q4.cells) := hrow
  have hb : ∀ b ∈ blkOf s, w2.heap.size <= b := hb
  dsimp only
  have h3 := h2.pu hp
  have hsl : s.len = k := by have := hrow.len Q4.len (by omega); rw [List.length_map, List.length_take] at this; omega
  refine Br.of (fun d1 => ?_) (fun d1 => ?_)
  · have hkn : k < σ.locks.length := by have := dtrue d1; omega
    obtain ⟨x, hx⟩ := at_k hkn
    obtain ⟨a, ha, hi, c0⟩ := h3.lk.elem Lock.len hx (o := 0) (v := .int .i64 x.u) rfl
    obtain ⟨a1, ha1, _, c1⟩ := h3.lk.elem Lock.len hx (o := 1) (v := .string x.name) rfl
    obtain ⟨a2, ha2, _, c2⟩ := h3.lk.elem Lock.len hx (o := 2) (v := .int .i64 x.at_) rfl
    obtain ⟨a3, ha3, _, c3⟩ := h3.lk.elem Lock.len hx (o := 3) (v := .int .i64 x.n) rfl
    rw [ha] at ha1 ha2 ha3; cases ha1; cases ha2; cases ha3
    refine ⟨a, ha, by omega, by omega, x.u, by rw [Int.toNat_natCast]; exact c0, x.name, by rw [Int.toNat_natCast]; exact c1, x.at_, by rw [Int.toNat_natCast]; exact c2, x.n, by rw [Int.toNat_natCast]; exact c3, ?_⟩
    refine alE_intro fun w4 hw4 => ?_
    have hp4 : Pu w3 w4 := by rw [hw4]; exact Pu.alloc w3 _
    have hn4 : w4.heap[w3.heap.size]? = some (.cells #[.int .i64 0, .string ⟨#[]⟩, .int .i64 0, .int .i64 0] 95) := by rw [hw4]; exact alloc_new w3 _
    refine stA_fill hn4 size95.symm rfl rfl fun w5 hb5 hf5 hz5 => ?_
    have hP35 : Pu w3 w5 := hp4.andNew hf5 fun i hi => by rw [show i = _ from hi]; exact Nat.le_refl _
    refine dwE_intro fun w6 hp6 _ => ⟨fun wz => wz.heap[w3.heap.size]? = some (.cells #[.int .i64 x.u, .string x.name, .int .i64 x.at_, .int .i64 x.n] 95), hp6.blk hb5,
      x.u, fun wz hz => by rw [cell_blk hz]; rfl, x.name, fun wz hz => by rw [add_def, cell_blk hz]; rfl, x.at_, fun wz hz => by rw [add_def, cell_blk hz]; rfl, x.n, fun wz hz => by rw [add_def, cell_blk hz]; rfl, ?_⟩
    have hP6 := (hp.trans hP35).trans hp6
    refine Calls.mono (indexT_c (hnames2.pu hP6) hnl x.name) ?_
    rintro e w7 ⟨rfl, rfl⟩
    refine ⟨_, rfl, hp6.blk hb5, ?_⟩
    refine alE_intro fun w8 hw8 => ?_
    have hp8 : Pu w7 w8 := by rw [hw8]; exact Pu.alloc w7 _
    obtain ⟨y, hy⟩ : ∃ y, y = rowQ (srt (σ.files.map Prod.fst)) x := ⟨_, rfl⟩
    have hn8 : w8.heap[w7.heap.size]? = some (.cells (Q4.cells y).toArray 103) := by rw [hy, hw8]; exact alloc_new w7 _
    obtain ⟨s', w9, hra, hr9, hf9, hb9, hl9⟩ := row_push_q4 (((hrow.pu hP35).pu hp6).pu hp8) (a := ⟨w7.heap.size, 0, none⟩) y (fun j v hv => by
      rw [add_def, cell_blk hn8, Nat.zero_add]; simpa using hv) (by omega)
    refine ⟨s', w9, hra, ?_⟩
    have hz6 := hP6.size
    have hz8 := hp8.size
    rw [wrap_in (by omega) (by omega)]
    have htk : σ.locks.take (k + 1) = σ.locks.take k ++ [x] := by rw [List.take_add_one, hx]; rfl
    refine hJ _ _ hkn ⟨by show (k : Int) + 1 = ((k + 1 : Nat) : Int); omega, ?_, fun b hb' => ?_, (hP6.trans hp8).andNew hf9 fun i hi => hb i hi⟩
    · show RowAt w9 103 4 s' _
      rw [htk, List.map_append, List.map_singleton, ← hy, List.flatMap_append]
      simpa using hr9
    · rcases hb9 b hb' with h | h
      · exact hb b h
      · omega
  · have hkn : k = σ.locks.length := by have := dfalse d1; omega
    subst hkn
    rw [List.take_length] at hrow
    refine Calls.mono (sortQ_c hrow (by rw [List.length_map]; omega)) ?_
    rintro e w4 ⟨rfl, q, hperm, hsrt, hr4, hf4⟩
    have hz3 := hp.size
    have hnot : ∀ x ∈ d.own, x ∉ blkOf s := fun x hx hs => by have := hb x hs; have := h2.lt x hx; omega
    have h4 : SysAt w4 d 1 σ := h3.fr hf4 fun x hx hs => hnot x hx hs
    have hP4 : Pu w2 w4 := hp.andNew hf4 fun i hi => hb i hi
    have hfr4 : Fr (· ∈ d.own) w w4 := hfr2.trans (Fr.pu hP4 : Fr (· ∈ d.own) w2 w4) fun i hi _ => hi
    refine ⟨rfl, ?_⟩
    exact leave_left h4 hfr4 fun w' hL hfS => ⟨s, q, rfl, hL, hr4.fr hfS fun b hb' hx => by have := hb b hb'; have hx : b = d.S := hx; omega, hsrt, hperm, fun b hb' => by have := hb b hb'; omega⟩
end Go.Proofs.YtnigfiljenfgjaaGreat
