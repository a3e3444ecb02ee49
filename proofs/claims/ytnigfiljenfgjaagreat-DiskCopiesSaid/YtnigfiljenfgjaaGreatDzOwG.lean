import Derived.Test.YtnigfiljenfgjaaGreatDzOwF
import Derived.Sort.Walk0
import Derived.Test.YtnigfiljenfgjaaGreatDzOwE
/- The disk's reference: its files stand in the order of their names. -/
set_option maxRecDepth 100000
set_option linter.unusedVariables false
set_option linter.unusedSimpArgs false
namespace Go.Proofs.YtnigfiljenfgjaaGreat
open Go.Sh Go.RowKit
theorem lessB_bLt (a b : ByteArray) : lessB a b = bLt a b := by
  unfold lessB
  rw [Go.Proofs.bytesLess_eq, Lib.toList_data, Lib.toList_data]; rfl
def SortedF (l : List (ByteArray × List UInt8)) : Prop := (l.map Prod.fst).Pairwise fun a b => bLt a b = true
theorem fold_done (name : ByteArray) : ∀ (l acc : List (ByteArray × List UInt8)), l.foldl (mkStep name) (acc, true) = (acc ++ l, true)
  | [], acc => by simp
  | f :: l, acc => by
    rw [List.foldl_cons]
    have : mkStep name (acc, true) f = (acc ++ [f], true) := by simp [mkStep]
    rw [this, fold_done name l]; simp
def mkFin (name : ByteArray) (a : List (ByteArray × List UInt8) × Bool) : List (ByteArray × List UInt8) := if a.2 then a.1 else a.1 ++ [(name, [])]
theorem fold_sorted (name : ByteArray) : ∀ (l acc : List (ByteArray × List UInt8)), SortedF (acc ++ l) -> (∀ f ∈ acc, bLt f.1 name = true) -> (∀ f ∈ l, f.1 ≠ name) -> SortedF (mkFin name (l.foldl (mkStep name) (acc, false)))
  | [], acc, hs, ha, _ => by
    rw [List.append_nil] at hs
    show SortedF (acc ++ [(name, [])])
    unfold SortedF at *
    rw [List.map_append, List.pairwise_append]
    refine ⟨hs, by simp, fun x hx y hy => ?_⟩
    obtain ⟨f, hf, rfl⟩ := List.mem_map.1 hx
    have hy : y = name := by simpa using hy
    rw [hy]; exact ha f hf
  | f :: l, acc, hs, ha, hne => by
    rw [List.foldl_cons]
    cases hl : lessB name f.1 with
    | true =>
      have e : mkStep name (acc, false) f = (acc ++ [(name, [])] ++ [f], true) := by simp [mkStep, hl]
      rw [e, fold_done]
      show SortedF (acc ++ [(name, [])] ++ [f] ++ l)
      rw [lessB_bLt] at hl
      unfold SortedF at *
      simp only [List.append_assoc, List.cons_append, List.nil_append, List.map_append, List.map_cons] at hs ⊢
      rw [List.pairwise_append] at hs ⊢
      obtain ⟨h1, h2, h3⟩ := hs
      refine ⟨h1, List.pairwise_cons.2 ⟨fun y hy => ?_, h2⟩, fun x hx y hy => ?_⟩
      · rcases List.mem_cons.1 hy with rfl | hy
        · exact hl
        · exact bLt_trans hl (bLt_le ((List.pairwise_cons.1 h2).1 y hy))
      · rcases List.mem_cons.1 hy with rfl | hy
        · obtain ⟨g, hg, rfl⟩ := List.mem_map.1 hx
          exact ha g hg
        · exact h3 x hx y hy
    | false =>
      have e : mkStep name (acc, false) f = (acc ++ [f], false) := by simp [mkStep, hl]
      rw [e]
      rw [lessB_bLt] at hl
      refine fold_sorted name l (acc ++ [f]) (by simpa using hs) (fun g hg => ?_) fun g hg => hne g (List.mem_cons_of_mem _ hg)
      rcases List.mem_append.1 hg with hg | hg
      · exact ha g hg
      · rw [List.mem_singleton.1 hg]
        have hfn := hne f (List.mem_cons_self ..)
        refine bLt_of ?_ hfn
        cases hb : bLe f.1 name with
        | true => rfl
        | false => rw [bLt_iff.2 hb] at hl; cases hl
theorem mkFiles_sorted {name : ByteArray} {l : List (ByteArray × List UInt8)} (hs : SortedF l) (hne : ∀ f ∈ l, f.1 ≠ name) : SortedF (mkFiles name l) := fold_sorted name l [] hs (by simp) hne
end Go.Proofs.YtnigfiljenfgjaaGreat

/- The disk: the program's systems and the reference's say the same: what each says of a byte; files made, dropped. -/
set_option maxRecDepth 100000
set_option linter.unusedVariables false
set_option linter.unusedSimpArgs false
namespace Go.Proofs.YtnigfiljenfgjaaGreat
open Go.Sh Go.RowKit
def vw (pg : Page) (j : Nat) : B3 := ⟨pg.kn j, pg.di j, pg.b j⟩
def Vw (σ : Sys) (u : Nat) (name : ByteArray) (i : Nat) : B3 := vw (pageOf σ u (name, ((i / 32 : Nat) : Int))) (i % 32)
def Ps (σ : Sys) (u : Nat) (name : ByteArray) (kk : Nat) : Bool := (AL.get (σ.caches u) (name, (kk : Int))).isSome
def VE (x y : B3) : Prop := x.is = y.is /\ x.di = y.di /\ x.b = y.b
theorem VE.refl (x : B3) : VE x x := ⟨rfl, rfl, rfl⟩
structure Sim (σ : Sys) (ρ : RSys) : Prop where
  fg : ∀ name, AL.get σ.files name = AL.get ρ.files name
  fn : σ.files.length = ρ.files.length
  lk : σ.locks = ρ.held
  v : ∀ u, u < 4 -> ∀ name b, AL.get ρ.files name = some b -> ∀ i, VE (Vw σ u name i) ((ρ.cOf u name).getD i B3.zero)
  p : ∀ u, u < 4 -> ∀ name b, AL.get ρ.files name = some b -> ∀ kk, Ps σ u name kk = ((ρ.cOf u name).getD (kk * 32) B3.zero).is
  dk : ∀ u, u < 4 -> ∀ name b, AL.get ρ.files name = some b -> ∀ i, ((ρ.cOf u name).getD i B3.zero).di = true -> ((ρ.cOf u name).getD i B3.zero).is = true
  nc : ∀ u, u < 4 -> ∀ name, AL.get ρ.files name = none -> ρ.cOf u name = []
  nd : (σ.files.map Prod.fst).Nodup
structure Ok (N : Nat) (σ : Sys) (ρ : RSys) : Prop where
  sim : Sim σ ρ
  good : Good σ
  rgood : RGood ρ
  sizes : Sizes (2100 * N) σ
  locks : ∀ l ∈ ρ.held, l.ok /\ 1 <= l.n
  held : ρ.held.length <= N
  files : ρ.files.length <= 8
theorem page_none {σ : Sys} {u : Nat} {name : ByteArray} {kk : Nat} (h : AL.get (σ.caches u) (name, (kk : Int)) = none) : pageOf σ u (name, (kk : Int)) = Page.zero := by simp [pageOf, h]
theorem Vw_none {σ : Sys} {u : Nat} {name : ByteArray} {i : Nat} (h : AL.get (σ.caches u) (name, ((i / 32 : Nat) : Int)) = none) : Vw σ u name i = B3.zero := by rw [Vw, page_none h]; rfl
theorem Good.noFile {σ : Sys} (h : Good σ) {u : Nat} (hu : u < 4) {name : ByteArray} (hf : AL.get σ.files name = none) (p : Int) : AL.get (σ.caches u) (name, p) = none := by
  cases hg : AL.get (σ.caches u) (name, p) with
  | none => rfl
  | some pg =>
    obtain ⟨f, hf', _⟩ := h.file u hu _ (AL.get_mem hg)
    rw [hf] at hf'; cases hf'
theorem Sim.ask {σ : Sys} {ρ : RSys} (h : Sim σ ρ) (name : ByteArray) : enterC 0 name σ = rAsk name ρ := by
  unfold enterC rAsk
  rw [h.fg]
  by_cases hn : isNm name
  · rw [if_neg (show ¬ ((0 : Int) < 0 ∨ (0 : Int) ≥ 4 ∨ ¬ isNm name) by rintro (h | h | h) <;> first | omega | exact h hn), if_neg (show ¬ ¬ isNm name from fun h => h hn)]
  · rw [if_pos (show (0 : Int) < 0 ∨ (0 : Int) ≥ 4 ∨ ¬ isNm name from .inr (.inr hn)), if_pos hn]
theorem Sim.both {σ : Sys} {ρ : RSys} (h : Sim σ ρ) (u : Int) (name : ByteArray) : enterC u name σ = rBoth u name ρ := by
  unfold enterC rBoth rAsk
  rw [h.fg]
  by_cases hu : u < 0 ∨ u ≥ 4
  · rw [if_pos (by omega), if_pos hu]
  · rw [if_neg hu]
    by_cases hn : isNm name
    · rw [if_neg (show ¬ (u < 0 ∨ u ≥ 4 ∨ ¬ isNm name) by rintro (h | h | h) <;> first | omega | exact h hn), if_neg (show ¬ ¬ isNm name from fun h => h hn)]
    · rw [if_pos (.inr (.inr hn)), if_pos hn]
theorem Sim.file {σ : Sys} {ρ : RSys} (h : Sim σ ρ) (name : ByteArray) : fileOf σ name = (AL.get ρ.files name).getD [] := by rw [fileOf, h.fg]
theorem Sim.new : Sim Sys.new RSys.new where
  fg := fun _ => rfl
  fn := rfl
  lk := rfl
  v := fun u hu name b h => by simp [RSys.new, AL.get] at h
  p := fun u hu name b h => by simp [RSys.new, AL.get] at h
  dk := fun u hu name b h => by simp [RSys.new, AL.get] at h
  nc := fun u hu name h => by simp [RSys.new, RSys.cOf, AL.get]
  nd := by simp [Sys.new]
theorem Ok.new : Ok 0 Sys.new RSys.new where
  sim := Sim.new
  good := ⟨fun name f h => by simp [Sys.new, AL.get] at h, fun u hu q hq => by simp [Sys.new] at hq, fun u hu => by simp [Sys.new], fun u hu q hq => by simp [Sys.new] at hq⟩
  rgood := ⟨fun name b h => by simp [RSys.new, AL.get] at h, fun u hu name b h => by simp [RSys.new, AL.get] at h⟩
  sizes := fun u hu => by simp [Sys.new]
  locks := by simp [RSys.new]
  held := by simp [RSys.new]
  files := by simp [RSys.new]
theorem Ok.more {N : Nat} {σ : Sys} {ρ : RSys} (h : Ok N σ ρ) : Ok (N + 1) σ ρ := { h with sizes := fun u hu => Nat.le_trans (h.sizes u hu) (by omega), held := Nat.le_trans h.held (by omega) }
theorem AL.length_put_new {κ ν : Type} [DecidableEq κ] {l : List (κ × ν)} {k : κ} (h : AL.get l k = none) (v : ν) : (AL.put l k v).length = l.length + 1 := by rw [AL.put_new h]; simp
theorem perm_get {ν : Type} {l l' : List (ByteArray × ν)} (hn : (l.map Prod.fst).Nodup) (hp : l.Perm l') (k : ByteArray) : AL.get l k = AL.get l' k := by
  have hn' : (l'.map Prod.fst).Nodup := (hp.map Prod.fst).nodup_iff.1 hn
  cases hg : AL.get l k with
  | none => exact (AL.get_none.2 fun hm => AL.get_none.1 hg ((hp.map Prod.fst).mem_iff.2 hm)).symm
  | some v => exact (AL.get_of_mem hn' (hp.mem_iff.1 (AL.get_mem hg))).symm
theorem Ok.make {N : Nat} {σ : Sys} {ρ : RSys} (h : Ok N σ ρ) (hnd : (ρ.files.map Prod.fst).Nodup) (name : ByteArray) : makeC name σ = rMakeC name ρ /\ Ok N (makeS name σ) (rMakeS name ρ) := by
  have hC : makeC name σ = rMakeC name ρ := by
    unfold makeC rMakeC
    rw [h.sim.ask, h.sim.fn]
    unfold rAsk
    by_cases hn : isNm name
    · cases hg : AL.get ρ.files name with
      | none => simp [hn]
      | some b => simp [hn]
    · simp [hn]
  refine ⟨hC, ?_⟩
  unfold makeS rMakeS
  rw [hC]
  by_cases h0 : rMakeC name ρ = 0
  · rw [if_pos h0, if_pos h0]
    have hg : AL.get ρ.files name = none /\ ρ.files.length < 8 := by
      unfold rMakeC at h0
      by_cases hn : isNm name
      · cases hg : AL.get ρ.files name with
        | none =>
          refine ⟨rfl, ?_⟩
          simp only [hn, hg] at h0
          by_cases h8 : ρ.files.length ≥ 8
          · simp [h8] at h0
          · omega
        | some b => simp [hn, hg] at h0
      · simp [hn] at h0
    obtain ⟨hg, h8⟩ := hg
    have hgσ : AL.get σ.files name = none := by rw [h.sim.fg]; exact hg
    have hperm := mkFiles_perm name ρ.files
    have hnd' : ((mkFiles name ρ.files).map Prod.fst).Nodup := by
      rw [(hperm.map Prod.fst).nodup_iff]
      simp only [List.map_cons, List.nodup_cons]
      exact ⟨AL.get_none.1 hg, hnd⟩
    have hget : ∀ x, AL.get (mkFiles name ρ.files) x = if name = x then some [] else AL.get ρ.files x := fun x => by
      rw [perm_get hnd' hperm]; simp only [AL.get]
    have hnp : ∀ u, u < 4 -> ∀ p, AL.get (σ.caches u) (name, p) = none := fun u hu p => h.good.noFile hu hgσ p
    have hce := fun u hu => h.sim.nc u hu name hg
    refine ⟨⟨fun x => ?_, ?_, h.sim.lk, fun u hu x b hb i => ?_, fun u hu x b hb kk => ?_, fun u hu x b hb i => ?_, fun u hu x hx => ?_, AL.nodup_put h.sim.nd _ _⟩, ⟨fun x f hx => ?_, h.good.near, h.good.cnt, fun u hu q hq => ?_⟩, ⟨fun x b hb => ?_, fun u hu x b hb => ?_⟩, h.sizes, h.locks, h.held, ?_⟩
    · rw [AL.get_put, hget, h.sim.fg]
    · rw [AL.length_put_new hgσ, hperm.length_eq, List.length_cons, h.sim.fn]
    · rw [hget] at hb
      show VE (Vw σ u x i) ((ρ.cOf u x).getD i B3.zero)
      by_cases e : name = x
      · subst e
        rw [hce u hu, Vw_none (hnp u hu _)]; exact VE.refl _
      · rw [if_neg e] at hb; exact h.sim.v u hu x b hb i
    · rw [hget] at hb
      show Ps σ u x kk = ((ρ.cOf u x).getD (kk * 32) B3.zero).is
      by_cases e : name = x
      · subst e
        rw [hce u hu, Ps, hnp u hu]; rfl
      · rw [if_neg e] at hb; exact h.sim.p u hu x b hb kk
    · rw [hget] at hb
      show ((ρ.cOf u x).getD i B3.zero).di = true -> ((ρ.cOf u x).getD i B3.zero).is = true
      by_cases e : name = x
      · subst e
        rw [hce u hu]; simp [B3.zero]
      · rw [if_neg e] at hb; exact h.sim.dk u hu x b hb i
    · rw [hget] at hx
      by_cases e : name = x
      · rw [if_pos e] at hx; cases hx
      · rw [if_neg e] at hx; exact h.sim.nc u hu x hx
    · rw [AL.get_put] at hx
      by_cases e : name = x
      · rw [if_pos e] at hx; cases hx; simp
      · rw [if_neg e] at hx; exact h.good.small x f hx
    · obtain ⟨f, hf, hi⟩ := h.good.file u hu q hq
      refine ⟨f, ?_, hi⟩
      rw [AL.get_put, if_neg (fun e => by rw [← e, hgσ] at hf; cases hf)]; exact hf
    · rw [hget] at hb
      by_cases e : name = x
      · rw [if_pos e] at hb; cases hb; simp
      · rw [if_neg e] at hb; exact h.rgood.fsz x b hb
    · rw [hget] at hb
      by_cases e : name = x
      · rw [if_pos e] at hb; cases hb
        show (ρ.cOf u x).length <= _
        rw [← e, hce u hu]; simp
      · rw [if_neg e] at hb; exact h.rgood.cin u hu x b hb
    · show (mkFiles name ρ.files).length <= 8
      rw [hperm.length_eq, List.length_cons]; omega
  · rw [if_neg h0, if_neg h0]; exact h
end Go.Proofs.YtnigfiljenfgjaaGreat

/- The disk: what a walk over pages leaves. -/
set_option maxRecDepth 100000
set_option linter.unusedVariables false
set_option linter.unusedSimpArgs false
namespace Go.Proofs.YtnigfiljenfgjaaGreat
open Go.Sh Go.RowKit
theorem setPage_get (σ : Sys) (u : Nat) (k : Place) (pg : Page) (v : Nat) (q : Place) : AL.get ((σ.setCache u (AL.put (σ.caches u) k pg)).caches v) q = if v = u /\ k = q then some pg else AL.get (σ.caches v) q := by
  simp only [Sys.setCache]
  by_cases e : v = u
  · subst e
    simp only [if_true, true_and, AL.get_put]
  · rw [if_neg e, if_neg (fun h => e h.1)]
theorem pageR_get {σ σ' : Sys} {u : Nat} {name : ByteArray} {kk : Nat} (h : AL.get (σ'.caches u) (name, (kk : Int)) = AL.get (σ.caches u) (name, (kk : Int))) (at_ n : Nat) (f : List UInt8) : pageR σ' u name kk at_ n f = pageR σ u name kk at_ n f := by unfold pageR; rw [h]
theorem eachS_get {τ : Type} {step : τ -> Page -> Nat -> Nat -> τ × Page} {at_ n : Nat} {f : List UInt8} {u : Nat} {name : ByteArray} {G : Nat -> B3 -> Nat -> B3}
    (hG : ∀ t pg k kk m, kk = (at_ + k) / 32 -> (k = 0 ∨ (at_ + k) % 32 = 0) -> k < n -> m = min (32 - (at_ + k) % 32) (n - k) -> ∀ j, j < 32 -> vw (innerS step t pg ((at_ + k) % 32) k m).2 j = G kk (vw pg j) j) :
    ∀ (fuel : Nat) (σ : Sys) (t : τ) (k : Nat), (k < n -> k = 0 ∨ (at_ + k) % 32 = 0) -> n <= k + fuel ->
      (∀ v q, ¬ (v = u /\ k < n /\ ∃ kk : Nat, q = (name, (kk : Int)) /\ (at_ + k) / 32 <= kk /\ kk <= (at_ + n - 1) / 32) -> AL.get ((eachS step u name at_ n f fuel σ t k).1.caches v) q = AL.get (σ.caches v) q) /\
      (∀ kk : Nat, k < n -> (at_ + k) / 32 <= kk -> kk <= (at_ + n - 1) / 32 -> ∃ pg', AL.get ((eachS step u name at_ n f fuel σ t k).1.caches u) (name, (kk : Int)) = some pg' /\ ∀ j, j < 32 -> vw pg' j = G kk (vw (pageR σ u name kk at_ n f) j) j)
  | 0, σ, t, k, hk, hfu => ⟨fun _ _ _ => rfl, fun kk h => by omega⟩
  | fuel + 1, σ, t, k, hk, hfu => by
    by_cases hkn : k < n
    · obtain ⟨m, hm⟩ : ∃ m, m = min (32 - (at_ + k) % 32) (n - k) := ⟨_, rfl⟩
      obtain ⟨r, hr⟩ : ∃ r, r = innerS step t (pageR σ u name ((at_ + k) / 32) at_ n f) ((at_ + k) % 32) k m := ⟨_, rfl⟩
      obtain ⟨σ1, hσ1⟩ : ∃ σ1, σ1 = σ.setCache u (AL.put (σ.caches u) (name, (((at_ + k) / 32 : Nat) : Int)) r.2) := ⟨_, rfl⟩
      have he : eachS step u name at_ n f (fuel + 1) σ t k = eachS step u name at_ n f fuel σ1 r.1 (k + m) := by
        rw [eachS, if_pos hkn]
        simp only [← hm, ← hr, ← hσ1]
      rw [he]
      have hg1 : ∀ v q, AL.get (σ1.caches v) q = if v = u /\ (name, (((at_ + k) / 32 : Nat) : Int)) = q then some r.2 else AL.get (σ.caches v) q := fun v q => by rw [hσ1, setPage_get]
      have hk' : k + m < n -> (at_ + (k + m)) % 32 = 0 /\ (at_ + (k + m)) / 32 = (at_ + k) / 32 + 1 := fun h => by omega
      obtain ⟨i1, i2⟩ := eachS_get hG fuel σ1 r.1 (k + m) (fun h => .inr (hk' h).1) (by omega)
      refine ⟨fun v q hq => ?_, fun kk _ h1 h2 => ?_⟩
      · rw [i1 v q fun ⟨e1, e2, kk, e3, e4, e5⟩ => hq ⟨e1, hkn, kk, e3, by have := hk' e2; omega, e5⟩, hg1, if_neg]
        rintro ⟨e1, e2⟩
        exact hq ⟨e1, hkn, (at_ + k) / 32, e2.symm, Nat.le_refl _, by omega⟩
      · by_cases e : kk = (at_ + k) / 32
        · subst e
          refine ⟨r.2, ?_, fun j hj => by rw [hr]; exact hG t _ k _ m rfl (hk hkn) hkn hm j hj⟩
          rw [i1 u _ fun ⟨_, e2, kk, e3, e4, e5⟩ => by
            have := hk' e2
            simp only [Prod.mk.injEq, true_and] at e3
            omega, hg1, if_pos ⟨rfl, rfl⟩]
        · have hlt : k + m < n := by omega
          obtain ⟨pg', g1, g2⟩ := i2 kk hlt (by have := hk' hlt; omega) h2
          refine ⟨pg', g1, fun j hj => ?_⟩
          rw [g2 j hj, pageR_get]
          rw [hg1, if_neg]
          rintro ⟨_, e2⟩
          simp only [Prod.mk.injEq, true_and] at e2
          omega
    · have he : eachS step u name at_ n f (fuel + 1) σ t k = (σ, t) := by rw [eachS, if_neg hkn]
      rw [he]
      exact ⟨fun _ _ _ => rfl, fun kk h => absurd h hkn⟩
theorem rstep_page (out : List UInt8) (pg : Page) (i k : Nat) : ∀ m, (innerS rstep out pg i k m).2 = pg
  | 0 => rfl
  | m + 1 => by show (rstep _ (innerS rstep out pg i k m).2 _ _).2 = pg; rw [rstep_page out pg i k m]; rfl
theorem rstep_out (out : List UInt8) (pg : Page) (i k : Nat) : ∀ m, k + m <= out.length -> (innerS rstep out pg i k m).1.length = out.length /\ ∀ j, (innerS rstep out pg i k m).1[j]? = if k <= j /\ j < k + m then some (pg.b (i + (j - k))) else out[j]?
  | 0, _ => ⟨rfl, fun j => by rw [if_neg (by omega)]; rfl⟩
  | m + 1, h => by
    obtain ⟨h1, h2⟩ := rstep_out out pg i k m (by omega)
    have he : (innerS rstep out pg i k (m + 1)).1 = (innerS rstep out pg i k m).1.set (k + m) (pg.b (i + m)) := by
      show (rstep _ (innerS rstep out pg i k m).2 _ _).1 = _
      rw [rstep_page]; rfl
    rw [he]
    refine ⟨by rw [List.length_set]; exact h1, fun j => ?_⟩
    by_cases e : j = k + m
    · subst e
      rw [List.getElem?_set_self (by omega), if_pos (by omega), show k + m - k = m by omega]
    · rw [List.getElem?_set_ne (by omega), h2]
      by_cases h3 : k <= j /\ j < k + m
      · rw [if_pos h3, if_pos (by omega)]
      · rw [if_neg h3, if_neg (by omega)]
theorem eachS_out {at_ n : Nat} {f : List UInt8} {u : Nat} {name : ByteArray} :
    ∀ (fuel : Nat) (σ : Sys) (t : List UInt8) (k : Nat), (k < n -> k = 0 ∨ (at_ + k) % 32 = 0) -> n <= k + fuel -> t.length = n -> (eachS rstep u name at_ n f fuel σ t k).2.length = n /\
      ∀ j, j < n -> (eachS rstep u name at_ n f fuel σ t k).2[j]? = if k <= j then some (pageR σ u name ((at_ + j) / 32) at_ n f |>.b ((at_ + j) % 32)) else t[j]?
  | 0, σ, t, k, hk, hfu, ht => ⟨ht, fun j hj => by rw [if_neg (by omega)]; rfl⟩
  | fuel + 1, σ, t, k, hk, hfu, ht => by
    by_cases hkn : k < n
    · obtain ⟨m, hm⟩ : ∃ m, m = min (32 - (at_ + k) % 32) (n - k) := ⟨_, rfl⟩
      obtain ⟨r, hr⟩ : ∃ r, r = innerS rstep t (pageR σ u name ((at_ + k) / 32) at_ n f) ((at_ + k) % 32) k m := ⟨_, rfl⟩
      obtain ⟨σ1, hσ1⟩ : ∃ σ1, σ1 = σ.setCache u (AL.put (σ.caches u) (name, (((at_ + k) / 32 : Nat) : Int)) r.2) := ⟨_, rfl⟩
      have he : eachS rstep u name at_ n f (fuel + 1) σ t k = eachS rstep u name at_ n f fuel σ1 r.1 (k + m) := by
        rw [eachS, if_pos hkn]
        simp only [← hm, ← hr, ← hσ1]
      rw [he]
      have hg1 : ∀ v q, AL.get (σ1.caches v) q = if v = u /\ (name, (((at_ + k) / 32 : Nat) : Int)) = q then some r.2 else AL.get (σ.caches v) q := fun v q => by rw [hσ1, setPage_get]
      obtain ⟨o1, o2⟩ := rstep_out t (pageR σ u name ((at_ + k) / 32) at_ n f) ((at_ + k) % 32) k m (by omega)
      rw [← hr] at o1 o2
      obtain ⟨i1, i2⟩ := eachS_out (at_ := at_) (n := n) (f := f) (u := u) (name := name) fuel σ1 r.1 (k + m) (fun h => by omega) (by omega) (by omega)
      refine ⟨i1, fun j hj => ?_⟩
      rw [i2 j hj, o2]
      by_cases h1 : k + m <= j
      · rw [if_pos h1, if_pos (by omega), pageR_get]
        rw [hg1, if_neg]
        rintro ⟨_, e2⟩
        simp only [Prod.mk.injEq, true_and] at e2
        omega
      · rw [if_neg h1]
        by_cases h2 : k <= j
        · rw [if_pos (by omega), if_pos h2, show (at_ + k) % 32 + (j - k) = (at_ + j) % 32 by omega, show (at_ + j) / 32 = (at_ + k) / 32 by omega]
        · rw [if_neg (by omega), if_neg h2]
    · have he : eachS rstep u name at_ n f (fuel + 1) σ t k = (σ, t) := by rw [eachS, if_neg hkn]
      rw [he]
      exact ⟨ht, fun j hj => by rw [if_neg (by omega)]⟩
def wrG (bs : List UInt8) (at_ : Nat) (kk : Nat) (x : B3) (j : Nat) : B3 := if at_ <= kk * 32 + j /\ kk * 32 + j < at_ + bs.length then ⟨true, true, bs.getD (kk * 32 + j - at_) 0⟩ else x
theorem wstep_page (bs : List UInt8) (pg : Page) (i k : Nat) : ∀ m j, vw (innerS (wstep bs) () pg i k m).2 j = if i <= j /\ j < i + m then ⟨true, true, bs.getD (k + (j - i)) 0⟩ else vw pg j
  | 0, j => by rw [if_neg (by omega)]; rfl
  | m + 1, j => by
    have ih := wstep_page bs pg i k m j
    have he : (innerS (wstep bs) () pg i k (m + 1)).2 = { b := upN (innerS (wstep bs) () pg i k m).2.b (i + m) (bs.getD (k + m) 0), kn := upN (innerS (wstep bs) () pg i k m).2.kn (i + m) true, di := upN (innerS (wstep bs) () pg i k m).2.di (i + m) true } := rfl
    rw [he]
    by_cases e : j = i + m
    · subst e
      rw [if_pos (by omega), show i + m - i = m by omega]
      simp [vw, upN]
    · have : vw ({ b := upN (innerS (wstep bs) () pg i k m).2.b (i + m) (bs.getD (k + m) 0), kn := upN (innerS (wstep bs) () pg i k m).2.kn (i + m) true, di := upN (innerS (wstep bs) () pg i k m).2.di (i + m) true } : Page) j = vw (innerS (wstep bs) () pg i k m).2 j := by simp [vw, upN, e]
      rw [this, ih]
      by_cases h3 : i <= j /\ j < i + m
      · rw [if_pos h3, if_pos (by omega)]
      · rw [if_neg h3, if_neg (by omega)]
theorem wstep_G (bs : List UInt8) (at_ : Nat) : ∀ (t : Unit) (pg : Page) (k kk m : Nat), kk = (at_ + k) / 32 -> (k = 0 ∨ (at_ + k) % 32 = 0) -> k < bs.length -> m = min (32 - (at_ + k) % 32) (bs.length - k) -> ∀ j, j < 32 -> vw (innerS (wstep bs) t pg ((at_ + k) % 32) k m).2 j = wrG bs at_ kk (vw pg j) j := fun t pg k kk m hkk hk hkn hm j hj => by
  rw [wstep_page, wrG]
  by_cases h : (at_ + k) % 32 <= j /\ j < (at_ + k) % 32 + m
  · rw [if_pos h, if_pos (by omega), show k + (j - (at_ + k) % 32) = kk * 32 + j - at_ by omega]
  · rw [if_neg h, if_neg (by omega)]
end Go.Proofs.YtnigfiljenfgjaaGreat

/- The disk: reading and writing are alike. -/
set_option maxRecDepth 100000
set_option linter.unusedVariables false
set_option linter.unusedSimpArgs false
namespace Go.Proofs.YtnigfiljenfgjaaGreat
open Go.Sh Go.RowKit
theorem Sim.upd {σ σ' : Sys} {ρ ρ' : RSys} (h : Sim σ ρ) {u : Nat} (hu : u < 4) {name : ByteArray} {b : List UInt8} (hb : AL.get ρ.files name = some b)
    (hfg : ∀ x, AL.get σ'.files x = AL.get ρ'.files x) (hfn : σ'.files.length = ρ'.files.length) (hlk : σ'.locks = ρ'.held) (hnd : (σ'.files.map Prod.fst).Nodup) (hdom : ∀ x, AL.get ρ'.files x = none ↔ AL.get ρ.files x = none)
    (ho : ∀ v x, v < 4 -> ¬ (v = u /\ x = name) -> ∀ kk : Nat, AL.get (σ'.caches v) (x, (kk : Int)) = AL.get (σ.caches v) (x, (kk : Int))) (hro : ∀ v x, v < 4 -> ¬ (v = u /\ x = name) -> ρ'.cOf v x = ρ.cOf v x)
    (hv : ∀ i, VE (Vw σ' u name i) ((ρ'.cOf u name).getD i B3.zero)) (hp : ∀ kk, Ps σ' u name kk = ((ρ'.cOf u name).getD (kk * 32) B3.zero).is) (hdk : ∀ i, ((ρ'.cOf u name).getD i B3.zero).di = true -> ((ρ'.cOf u name).getD i B3.zero).is = true) : Sim σ' ρ' := by
  have old : ∀ {x b'}, AL.get ρ'.files x = some b' -> ∃ b0, AL.get ρ.files x = some b0 := fun {x b'} hx => by
    cases hg : AL.get ρ.files x with
    | none => rw [(hdom x).2 hg] at hx; cases hx
    | some b0 => exact ⟨b0, rfl⟩
  refine ⟨hfg, hfn, hlk, fun v hv4 x b' hb' i => ?_, fun v hv4 x b' hb' kk => ?_, fun v hv4 x b' hb' i => ?_, fun v hv4 x hx => ?_, hnd⟩
  · by_cases e : v = u /\ x = name
    · obtain ⟨rfl, rfl⟩ := e; exact hv i
    · obtain ⟨b0, hb0⟩ := old hb'
      rw [hro v x hv4 e]
      have : Vw σ' v x i = Vw σ v x i := by simp only [Vw, pageOf, ho v x hv4 e]
      rw [this]; exact h.v v hv4 x b0 hb0 i
  · by_cases e : v = u /\ x = name
    · obtain ⟨rfl, rfl⟩ := e; exact hp kk
    · obtain ⟨b0, hb0⟩ := old hb'
      rw [hro v x hv4 e]
      have : Ps σ' v x kk = Ps σ v x kk := by simp only [Ps, ho v x hv4 e]
      rw [this]; exact h.p v hv4 x b0 hb0 kk
  · by_cases e : v = u /\ x = name
    · obtain ⟨rfl, rfl⟩ := e; exact hdk i
    · obtain ⟨b0, hb0⟩ := old hb'
      rw [hro v x hv4 e]
      exact h.dk v hv4 x b0 hb0 i
  · have hx0 := (hdom x).1 hx
    rw [hro v x hv4 fun e => by rw [e.2, hb] at hx0; cases hx0]
    exact h.nc v hv4 x hx0
theorem cOf_setC (ρ : RSys) (u : Nat) (name : ByteArray) (l : List B3) (v : Nat) (x : ByteArray) : (ρ.setC u name l).cOf v x = if v = u /\ x = name then l else ρ.cOf v x := by
  simp only [RSys.cOf, RSys.setC]
  by_cases e : v = u
  · subst e
    simp only [if_true, AL.get_put, true_and]
    by_cases e2 : name = x
    · rw [if_pos e2, if_pos e2.symm]; rfl
    · rw [if_neg e2, if_neg (Ne.symm e2)]
  · rw [if_neg e, if_neg fun h => e h.1]
theorem cOf_updC (ρ : RSys) (u : Nat) (name : ByteArray) {f : List B3 -> List B3} (hf : f [] = []) (v : Nat) (x : ByteArray) : (ρ.updC u name f).cOf v x = if v = u /\ x = name then f (ρ.cOf u name) else ρ.cOf v x := by
  unfold RSys.updC
  cases hg : AL.get (ρ.caches u) name with
  | none =>
    have hc : ρ.cOf u name = [] := by simp [RSys.cOf, hg]
    by_cases e : v = u /\ x = name
    · rw [if_pos e, hc, hf, e.1, e.2, hc]
    · rw [if_neg e]
  | some l =>
    have hc : ρ.cOf u name = l := by simp [RSys.cOf, hg]
    rw [cOf_setC, hc]
theorem updC_files (ρ : RSys) (u : Nat) (name : ByteArray) (f : List B3 -> List B3) : (ρ.updC u name f).files = ρ.files /\ (ρ.updC u name f).held = ρ.held := by
  unfold RSys.updC
  split <;> exact ⟨rfl, rfl⟩
theorem cOf_fetchS (ρ : RSys) (u : Nat) (name : ByteArray) (at_ n v : Nat) (x : ByteArray) : (rFetchS u name at_ n ρ).cOf v x = if v = u /\ x = name /\ n ≠ 0 then rFetch (ρ.cOf u name) ((AL.get ρ.files name).getD []) at_ n else ρ.cOf v x := by
  unfold rFetchS
  by_cases h0 : n = 0
  · rw [if_pos h0, if_neg fun h => h.2.2 h0]
  · rw [if_neg h0, cOf_setC]
    by_cases e : v = u /\ x = name
    · rw [if_pos e, if_pos ⟨e.1, e.2, h0⟩]
    · rw [if_neg e, if_neg fun h => e ⟨h.1, h.2.1⟩]
theorem fetchS_files (ρ : RSys) (u : Nat) (name : ByteArray) (at_ n : Nat) : (rFetchS u name at_ n ρ).files = ρ.files /\ (rFetchS u name at_ n ρ).held = ρ.held := by
  unfold rFetchS
  split <;> exact ⟨rfl, rfl⟩
section
variable {N : Nat} {σ : Sys} {ρ : RSys}
theorem Ok.past (h : Ok N σ ρ) {u : Nat} (hu : u < 4) {name : ByteArray} {b : List UInt8} (hb : AL.get ρ.files name = some b) {i : Nat} (hi : b.length <= i) : (ρ.cOf u name).getD i B3.zero = B3.zero := by
  have := h.rgood.cin u hu name b hb
  have h1 : (ρ.cOf u name)[i]? = none := List.getElem?_eq_none (by omega)
  simp [List.getD, h1]
theorem Ok.has (h : Ok N σ ρ) {u : Nat} (hu : u < 4) {name : ByteArray} {b : List UInt8} (hb : AL.get ρ.files name = some b) (kk : Nat) : hasP (ρ.cOf u name) kk = Ps σ u name kk := by
  have hp := h.sim.p u hu name b hb kk
  cases hP : Ps σ u name kk with
  | true =>
    rw [hP] at hp
    rw [hasP, List.any_eq_true]
    exact ⟨0, by simp, by rw [Nat.add_zero, ← hp]⟩
  | false =>
    rw [hasP, List.any_eq_false]
    intro j hj
    have hj := List.mem_range.1 hj
    have hv := (h.sim.v u hu name b hb (kk * 32 + j)).1
    rw [← hv]
    have hn : AL.get (σ.caches u) (name, (kk : Int)) = none := by
      simpa [Ps] using hP
    have : Vw σ u name (kk * 32 + j) = B3.zero := Vw_none (by rw [show (kk * 32 + j) / 32 = kk by omega]; exact hn)
    rw [this]; simp [B3.zero]
theorem Ok.pageR (h : Ok N σ ρ) {u : Nat} (hu : u < 4) {name : ByteArray} {b : List UInt8} (hb : AL.get ρ.files name = some b) {kk at_ n : Nat} (h1 : at_ / 32 <= kk) (h2 : kk <= (at_ + n - 1) / 32) {j : Nat} (hj : j < 32) :
    VE (vw (pageR σ u name kk at_ n b) j) ((rFetch (ρ.cOf u name) b at_ n).getD (kk * 32 + j) B3.zero) := by
  obtain ⟨i, hi⟩ : ∃ i, i = kk * 32 + j := ⟨_, rfl⟩
  have hi32 : i / 32 = kk := by omega
  have him : i % 32 = j := by omega
  have hhas := h.has hu hb kk
  have hv := h.sim.v u hu name b hb i
  have hdk := h.sim.dk u hu name b hb i
  have hpast := fun hl => h.past hu hb (i := i) hl
  rw [← hi, rFetch, rm_getD]
  unfold YtnigfiljenfgjaaGreat.pageR
  cases hg : AL.get (σ.caches u) (name, (kk : Int)) with
  | none =>
    have hP : Ps σ u name kk = false := by simp [Ps, hg]
    have hV : Vw σ u name i = B3.zero := Vw_none (by rw [hi32]; exact hg)
    rw [hV] at hv
    have hk : ((ρ.cOf u name).getD i B3.zero).is = false := hv.1.symm
    simp only [vw, fetchP, Page.zero, ← hi]
    by_cases hl : i < b.length
    · have hfa : fetchAt (ρ.cOf u name) b at_ n i = ⟨true, false, b.getD i 0⟩ := by rw [fetchAt, hi32, if_pos ⟨h1, h2, hk, .inl (by rw [hhas, hP])⟩]
      simp [hl, hj, VE, hfa]
    · simp [hl, VE, B3.zero]
  | some p =>
    have hP : Ps σ u name kk = true := by simp [Ps, hg]
    have hV : Vw σ u name i = vw p j := by simp [Vw, pageOf, hi32, him, hg]
    rw [hV] at hv
    obtain ⟨v1, v2, v3⟩ := hv
    simp only [vw] at v1 v2 v3
    simp only [vw, wantP, ← hi]
    by_cases hl : i < b.length
    · rw [show (if i < b.length then fetchAt (ρ.cOf u name) b at_ n i else B3.zero) = fetchAt (ρ.cOf u name) b at_ n i from if_pos hl]
      by_cases hc : ((ρ.cOf u name).getD i B3.zero).is = false /\ (at_ <= i /\ i < at_ + n)
      · have hkn : p.kn j = false := by rw [v1]; exact hc.1
        have hdi : p.di j = false := by
          rw [v2]
          cases hd : ((ρ.cOf u name).getD i B3.zero).di with
          | false => rfl
          | true => have := hdk hd; rw [hc.1] at this; cases this
        have hfa : fetchAt (ρ.cOf u name) b at_ n i = ⟨true, false, b.getD i 0⟩ := by rw [fetchAt, hi32, if_pos ⟨h1, h2, hc.1, .inr hc.2⟩]
        rw [hfa]
        simp [VE, hkn, hdi, hj, hl, hc.2]
      · have hfa : fetchAt (ρ.cOf u name) b at_ n i = (ρ.cOf u name).getD i B3.zero := by rw [fetchAt, hi32, if_neg fun hx => hc ⟨hx.2.2.1, hx.2.2.2.elim (fun hx => by rw [hhas, hP] at hx; cases hx) id⟩]
        rw [hfa]
        cases hkn : p.kn j with
        | true =>
          refine ⟨by rw [← v1, hkn]; rfl, v2, ?_⟩
          rw [← v3]; simp
        | false =>
          have hnr : ¬ (at_ <= i /\ i < at_ + n) := fun hx => hc ⟨by rw [← v1, hkn], hx⟩
          refine ⟨by rw [← v1, hkn]; simp [hnr], v2, ?_⟩
          rw [← v3]; simp [hnr]
    · rw [show (if i < b.length then fetchAt (ρ.cOf u name) b at_ n i else B3.zero) = B3.zero from if_neg hl]
      rw [hpast (by omega)] at v1 v2 v3
      refine ⟨by rw [v1]; simp [hl], v2, ?_⟩
      rw [← v3]; simp [hl]
theorem inside_nat {b : List UInt8} {at_ n : Int} (h : insideB b at_ n = true) : ∃ a m : Nat, at_ = (a : Int) /\ n = (m : Int) /\ a + m <= b.length := by
  obtain ⟨h1, h2, h3, h4⟩ := inside_iff.1 h
  exact ⟨at_.toNat, n.toNat, by omega, by omega, by omega⟩
theorem Ok.readC (h : Ok N σ ρ) (u : Int) (name : ByteArray) (at_ n : Int) : readC u name at_ n σ = rReadC u name at_ n ρ := by
  unfold YtnigfiljenfgjaaGreat.readC rReadC
  rw [h.sim.both, h.sim.file]
  by_cases h0 : rBoth u name ρ = 0
  · rw [if_pos h0, if_pos h0]
    generalize (AL.get ρ.files name).getD [] = b
    by_cases hin : insideB b at_ n = true
    · rw [if_pos hin]
      obtain ⟨h1, h2, h3, h4⟩ := inside_iff.1 hin
      rw [if_neg (by omega), if_neg (by omega), if_neg (by omega), if_neg (by omega)]
    · rw [if_neg hin]
      have : ¬ (0 <= at_ /\ 0 <= n /\ at_ <= b.length /\ n <= b.length - at_) := fun hx => hin (inside_iff.2 hx)
      by_cases c1 : at_ < 0
      · rw [if_pos c1]
      · rw [if_neg c1]
        by_cases c2 : n < 0
        · rw [if_pos c2]
        · rw [if_neg c2]
          by_cases c3 : at_ > b.length
          · rw [if_pos c3]
          · rw [if_neg c3, if_pos (by omega)]
  · rw [if_neg h0, if_neg h0]
theorem Ok.writeC (h : Ok N σ ρ) (u : Int) (name : ByteArray) (at_ : Int) (bs : List UInt8) : writeC u name at_ bs σ = rWriteC u name at_ bs ρ := by
  rw [rWriteC, ← h.readC]
  unfold YtnigfiljenfgjaaGreat.writeC YtnigfiljenfgjaaGreat.readC
  have : ¬ ((bs.length : Int) < 0) := by omega
  rw [if_neg this]
theorem Ok.each (h : Ok N σ ρ) (hN : N <= 400) {τ : Type} {step : τ -> Page -> Nat -> Nat -> τ × Page} {u : Nat} (hu : u < 4) {name : ByteArray} {b : List UInt8} (hb : AL.get ρ.files name = some b) {at_ n : Nat} (hin : at_ + n <= b.length) (hn0 : n ≠ 0) (hs : StepOk step at_ n b.length) {G : Nat -> B3 -> Nat -> B3}
    (hG : ∀ t pg k kk m, kk = (at_ + k) / 32 -> (k = 0 ∨ (at_ + k) % 32 = 0) -> k < n -> m = min (32 - (at_ + k) % 32) (n - k) -> ∀ j, j < 32 -> vw (innerS step t pg ((at_ + k) % 32) k m).2 j = G kk (vw pg j) j) (t : τ) {ρ' : RSys}
    (hrf : ρ'.files = ρ.files) (hrl : ρ'.held = ρ.held) (hro : ∀ v x, v < 4 -> ¬ (v = u /\ x = name) -> ρ'.cOf v x = ρ.cOf v x) (hlen : (ρ'.cOf u name).length <= b.length)
    (hc1 : ∀ kk j, at_ / 32 <= kk -> kk <= (at_ + n - 1) / 32 -> j < 32 -> ∀ x, VE x ((rFetch (ρ.cOf u name) b at_ n).getD (kk * 32 + j) B3.zero) -> VE (G kk x j) ((ρ'.cOf u name).getD (kk * 32 + j) B3.zero))
    (hc2 : ∀ i, ¬ (at_ / 32 <= i / 32 /\ i / 32 <= (at_ + n - 1) / 32) -> (ρ'.cOf u name).getD i B3.zero = (ρ.cOf u name).getD i B3.zero)
    (hc3 : ∀ kk, at_ / 32 <= kk -> kk <= (at_ + n - 1) / 32 -> ((ρ'.cOf u name).getD (kk * 32) B3.zero).is = true) (hdk : ∀ i, ((ρ'.cOf u name).getD i B3.zero).di = true -> ((ρ'.cOf u name).getD i B3.zero).is = true) :
    Ok (N + 1) (eachS step u name at_ n b n σ t 0).1 ρ' := by
  have hbs : AL.get σ.files name = some b := by rw [h.sim.fg]; exact hb
  have hsz := h.rgood.fsz name b hb
  obtain ⟨g1, g2, g3, g4⟩ := eachS_good hs hu (by omega) hin n σ t 0 (2100 * N) h.good hbs h.sizes (by split <;> omega)
  obtain ⟨e1, e2⟩ := eachS_get hG n σ t 0 (fun _ => .inl rfl) (by omega)
  generalize (eachS step u name at_ n b n σ t 0).1 = σ' at g1 g2 g3 g4 e1 e2
  have hpos : 0 < n := by omega
  refine ⟨?_, g1, ⟨fun x f hx => h.rgood.fsz x f (by rw [← hrf]; exact hx), fun v hv x f hx => ?_⟩, fun v hv => Nat.le_trans (g4 v hv) (by rw [if_pos hpos]; omega), by rw [hrl]; exact h.locks, by rw [hrl]; have := h.held; omega, by rw [hrf]; exact h.files⟩
  · refine h.sim.upd hu hb (fun x => by rw [g2, hrf]; exact h.sim.fg x) (by rw [g2, hrf]; exact h.sim.fn) (by rw [g3, hrl]; exact h.sim.lk) (by rw [g2]; exact h.sim.nd) (fun x => by rw [hrf]) (fun v x hv hne kk => ?_) hro (fun i => ?_) (fun kk => ?_) hdk
    · refine e1 v _ fun ⟨a1, _, kk', a2, _, _⟩ => hne ⟨a1, ?_⟩
      simp only [Prod.mk.injEq] at a2
      exact a2.1
    · by_cases hr : at_ / 32 <= i / 32 /\ i / 32 <= (at_ + n - 1) / 32
      · obtain ⟨pg', p1, p2⟩ := e2 (i / 32) hpos (by simpa using hr.1) hr.2
        have hVw : Vw σ' u name i = vw pg' (i % 32) := by simp only [Vw, pageOf, p1, Option.getD_some]
        rw [hVw, p2 _ (by omega)]
        have := hc1 (i / 32) (i % 32) hr.1 hr.2 (by omega) _ (h.pageR hu hb (at_ := at_) (n := n) hr.1 hr.2 (by omega))
        rw [show i / 32 * 32 + i % 32 = i by omega] at this
        exact this
      · rw [hc2 i hr]
        have : Vw σ' u name i = Vw σ u name i := by
          simp only [Vw, pageOf]
          rw [e1 u _ fun ⟨_, _, kk', a2, a3, a4⟩ => hr (by
            simp only [Prod.mk.injEq, true_and] at a2
            rw [Nat.add_zero] at a3
            omega)]
        rw [this]; exact h.sim.v u hu name b hb i
    · by_cases hr : at_ / 32 <= kk /\ kk <= (at_ + n - 1) / 32
      · obtain ⟨pg', p1, _⟩ := e2 kk hpos (by simpa using hr.1) hr.2
        rw [hc3 kk hr.1 hr.2, Ps, p1]; rfl
      · rw [hc2 (kk * 32) (by rw [show kk * 32 / 32 = kk by omega]; exact hr)]
        have : Ps σ' u name kk = Ps σ u name kk := by
          simp only [Ps]
          rw [e1 u _ fun ⟨_, _, kk', a2, a3, a4⟩ => hr (by
            simp only [Prod.mk.injEq, true_and] at a2
            rw [Nat.add_zero] at a3
            omega)]
        rw [this]; exact h.sim.p u hu name b hb kk
  · rw [hrf] at hx
    by_cases e : v = u /\ x = name
    · obtain ⟨rfl, rfl⟩ := e
      rw [hb] at hx; cases hx; exact hlen
    · rw [hro v x hv e]; exact h.rgood.cin v hv x f hx
end
end Go.Proofs.YtnigfiljenfgjaaGreat

/- The disk: reading and writing are alike, second part. -/
set_option maxRecDepth 100000
set_option linter.unusedVariables false
set_option linter.unusedSimpArgs false
namespace Go.Proofs.YtnigfiljenfgjaaGreat
open Go.Sh Go.RowKit
variable {N : Nat} {σ : Sys} {ρ ρ' : RSys}
theorem Ok.same (h : Ok N σ ρ) (hf : ρ'.files = ρ.files) (hl : ρ'.held = ρ.held) (hc : ∀ v x, v < 4 -> ρ'.cOf v x = ρ.cOf v x) : Ok N σ ρ' where
  sim := ⟨by rw [hf]; exact h.sim.fg, by rw [hf]; exact h.sim.fn, by rw [hl]; exact h.sim.lk, fun u hu x b hb => by rw [hc u x hu]; rw [hf] at hb; exact h.sim.v u hu x b hb, fun u hu x b hb => by rw [hc u x hu]; rw [hf] at hb; exact h.sim.p u hu x b hb, fun u hu x b hb => by rw [hc u x hu]; rw [hf] at hb; exact h.sim.dk u hu x b hb, fun u hu x hx => by rw [hc u x hu]; rw [hf] at hx; exact h.sim.nc u hu x hx, h.sim.nd⟩
  good := h.good
  rgood := ⟨by rw [hf]; exact h.rgood.fsz, fun u hu x b hb => by rw [hc u x hu]; rw [hf] at hb; exact h.rgood.cin u hu x b hb⟩
  sizes := h.sizes
  locks := by rw [hl]; exact h.locks
  held := by rw [hl]; exact h.held
  files := by rw [hf]; exact h.files
theorem fetch_out (h : Ok N σ ρ) {u : Nat} (hu : u < 4) {name : ByteArray} {b : List UInt8} (hb : AL.get ρ.files name = some b) {at_ n i : Nat} (hi : ¬ (at_ / 32 <= i / 32 /\ i / 32 <= (at_ + n - 1) / 32)) : (rFetch (ρ.cOf u name) b at_ n).getD i B3.zero = (ρ.cOf u name).getD i B3.zero := by
  rw [rFetch, rm_getD]
  by_cases hl : i < b.length
  · rw [if_pos hl, fetchAt, if_neg fun hx => hi ⟨hx.1, hx.2.1⟩]
  · rw [if_neg hl, h.past hu hb (by omega)]
theorem fetch_first (h : Ok N σ ρ) {u : Nat} (hu : u < 4) {name : ByteArray} {b : List UInt8} (hb : AL.get ρ.files name = some b) {at_ n kk : Nat} (hin : at_ + n <= b.length) (hn0 : n ≠ 0) (h1 : at_ / 32 <= kk) (h2 : kk <= (at_ + n - 1) / 32) : ((rFetch (ρ.cOf u name) b at_ n).getD (kk * 32) B3.zero).is = true := by
  rw [rFetch, rm_getD, if_pos (by omega), fetchAt, show kk * 32 / 32 = kk by omega]
  cases hc : ((ρ.cOf u name).getD (kk * 32) B3.zero).is with
  | true => rw [if_neg fun hx => by cases hx.2.2.1]; exact hc
  | false => rw [if_pos ⟨h1, h2, rfl, .inl (by rw [h.has hu hb, h.sim.p u hu name b hb, hc])⟩]
theorem fetch_dk (h : Ok N σ ρ) {u : Nat} (hu : u < 4) {name : ByteArray} {b : List UInt8} (hb : AL.get ρ.files name = some b) (at_ n i : Nat) : ((rFetch (ρ.cOf u name) b at_ n).getD i B3.zero).di = true -> ((rFetch (ρ.cOf u name) b at_ n).getD i B3.zero).is = true := by
  rw [rFetch, rm_getD]
  by_cases hl : i < b.length
  · rw [if_pos hl, fetchAt]
    split
    · intro _; rfl
    · exact h.sim.dk u hu name b hb i
  · rw [if_neg hl]; simp [B3.zero]
theorem rReadC_zero {u : Int} {name : ByteArray} {at_ n : Int} (h0 : rReadC u name at_ n ρ = 0) : ∃ (v : Nat) (b : List UInt8) (a m : Nat), u = (v : Int) /\ v < 4 /\ AL.get ρ.files name = some b /\ at_ = (a : Int) /\ n = (m : Int) /\ a + m <= b.length /\ rBoth u name ρ = 0 := by
  unfold rReadC at h0
  by_cases h1 : rBoth u name ρ = 0
  · rw [if_pos h1] at h0
    obtain ⟨⟨v, hv, hv4⟩, b, hb⟩ := rBoth_zero h1
    rw [hb] at h0
    by_cases h2 : insideB b at_ n = true
    · obtain ⟨a, m, ha, hm, hl⟩ := inside_nat h2
      exact ⟨v, b, a, m, hv, hv4, hb, ha, hm, hl, h1⟩
    · rw [show (some b).getD [] = b from rfl, if_neg h2] at h0; cases h0
  · rw [if_neg h1] at h0; exact absurd h0 h1
theorem Ok.read (h : Ok N σ ρ) (hN : N <= 400) (u : Int) (name : ByteArray) (at_ n : Int) : Ok (N + 1) (readR u name at_ n σ).1 (rReadS u name at_ n ρ) /\ (readR u name at_ n σ).2 = rReadB u name at_ n ρ := by
  unfold readR rReadS rReadB
  rw [h.readC]
  by_cases h0 : rReadC u name at_ n ρ = 0
  · rw [if_pos h0, if_pos h0, if_pos h0]
    obtain ⟨v, b, a, m, rfl, hv, hb, rfl, rfl, hin, _⟩ := rReadC_zero h0
    have hfo : fileOf σ name = b := by rw [h.sim.file, hb]; rfl
    rw [hfo]
    simp only [Int.toNat_natCast]
    by_cases hm : m = 0
    · subst hm
      refine ⟨?_, rfl⟩
      show Ok (N + 1) σ (rFetchS v name a 0 ρ)
      rw [rFetchS, if_pos rfl]; exact h.more
    · have hc' : (rFetchS v name a m ρ).cOf v name = rFetch (ρ.cOf v name) b a m := by rw [cOf_fetchS, if_pos ⟨rfl, rfl, hm⟩, hb]; rfl
      refine ⟨h.each hN hv hb hin hm stepOk_read (G := fun _ x _ => x) (fun t pg k kk m _ _ _ _ j _ => by rw [rstep_page]) _ (fetchS_files ..).1 (fetchS_files ..).2 (fun x y hx hne => by rw [cOf_fetchS, if_neg fun e => hne ⟨e.1, e.2.1⟩]) (by rw [hc', rFetch, rm_len]; exact Nat.le_refl _) (fun kk j _ _ _ x hx => by rw [hc']; exact hx) (fun i hi => by rw [hc']; exact fetch_out h hv hb hi) (fun kk h1 h2 => by rw [hc']; exact fetch_first h hv hb hin hm h1 h2) (fun i => by rw [hc']; exact fetch_dk h hv hb a m i), ?_⟩
      obtain ⟨o1, o2⟩ := eachS_out (at_ := a) (n := m) (f := b) (u := v) (name := name) m σ (List.replicate m 0) 0 (fun _ => .inl rfl) (by omega) (by simp)
      apply List.ext_getElem?
      intro j
      by_cases hj : j < m
      · rw [o2 j hj, if_pos (Nat.zero_le _), rm_get _ hj, hc']
        congr 1
        have hV := h.pageR hv hb (kk := (a + j) / 32) (at_ := a) (n := m) (by omega) (by omega) (j := (a + j) % 32) (by omega)
        rw [show (a + j) / 32 * 32 + (a + j) % 32 = a + j by omega] at hV
        exact hV.2.2
      · rw [List.getElem?_eq_none (by omega), List.getElem?_eq_none (by rw [rm_len]; omega)]
  · rw [if_neg h0, if_neg h0, if_neg h0]
    exact ⟨h.more, rfl⟩
theorem wrTo_getD (c : List B3) (at_ : Nat) (bs : List UInt8) (j i : Nat) : (wrTo c at_ bs j).getD i B3.zero = if i < c.length /\ at_ <= i /\ i < at_ + j then ⟨true, true, bs.getD (i - at_) 0⟩ else c.getD i B3.zero := by
  rw [wrTo, rm_getD]
  by_cases hl : i < c.length
  · rw [if_pos hl]
    by_cases h2 : at_ <= i /\ i < at_ + j
    · rw [if_pos h2, if_pos ⟨hl, h2⟩]
    · rw [if_neg h2, if_neg fun hx => h2 hx.2]
  · rw [if_neg hl, if_neg fun hx => hl hx.1]
    have : c[i]? = none := List.getElem?_eq_none (by omega)
    simp [List.getD, this]
theorem Ok.write (h : Ok N σ ρ) (hN : N <= 400) (u : Int) (name : ByteArray) (at_ : Int) (bs : List UInt8) : Ok (N + 1) (writeS u name at_ bs σ) (rWriteS u name at_ bs ρ) := by
  unfold writeS rWriteS
  rw [h.writeC]
  by_cases h0 : rWriteC u name at_ bs ρ = 0
  · rw [if_pos h0, if_pos h0]
    obtain ⟨v, b, a, m, rfl, hv, hb, rfl, hm0, hin, _⟩ := rReadC_zero (by rw [rWriteC] at h0; exact h0)
    have hm : m = bs.length := by omega
    subst hm
    have hfo : fileOf σ name = b := by rw [h.sim.file, hb]; rfl
    rw [hfo]
    simp only [Int.toNat_natCast]
    have hw0 : wrTo [] a bs bs.length = [] := rfl
    have hF := updC_files (rFetchS v name a bs.length ρ) v name (fun c => wrTo c a bs bs.length)
    have hro : ∀ x y, x < 4 -> ¬ (x = v /\ y = name) -> ((rFetchS v name a bs.length ρ).updC v name (fun c => wrTo c a bs bs.length)).cOf x y = ρ.cOf x y := fun x y hx hne => by
      rw [cOf_updC _ _ _ hw0, if_neg hne, cOf_fetchS, if_neg fun e => hne ⟨e.1, e.2.1⟩]
    have hf1 := hF.1.trans (fetchS_files ρ v name a bs.length).1
    have hf2 := hF.2.trans (fetchS_files ρ v name a bs.length).2
    by_cases hm : bs.length = 0
    · have he : (eachS (wstep bs) v name a bs.length b bs.length σ () 0).1 = σ := by rw [hm]; rfl
      rw [he]
      refine h.more.same hf1 hf2 fun x y hx => ?_
      by_cases e : x = v /\ y = name
      · rw [cOf_updC _ _ _ hw0, if_pos e, cOf_fetchS, if_neg fun e => e.2.2 hm, e.1, e.2, hm, wrTo_zero]
      · exact hro x y hx e
    · have hc' : ((rFetchS v name a bs.length ρ).updC v name (fun c => wrTo c a bs bs.length)).cOf v name = wrTo (rFetch (ρ.cOf v name) b a bs.length) a bs bs.length := by
        rw [cOf_updC _ _ _ hw0, if_pos ⟨rfl, rfl⟩, cOf_fetchS, if_pos ⟨rfl, rfl, hm⟩, hb]; rfl
      have hcl : (rFetch (ρ.cOf v name) b a bs.length).length = b.length := by rw [rFetch, rm_len]
      refine h.each hN hv hb hin hm (stepOk_write bs hin) (wstep_G bs a) () hf1 hf2 hro (by rw [hc', wrTo, rm_len, hcl]; exact Nat.le_refl _) (fun kk j h1 h2 hj x hx => ?_) (fun i hi => ?_) (fun kk h1 h2 => ?_) (fun i => ?_)
      · rw [hc', wrTo_getD, hcl, wrG]
        by_cases hr : a <= kk * 32 + j /\ kk * 32 + j < a + bs.length
        · rw [if_pos hr, if_pos ⟨by omega, hr⟩]; exact VE.refl _
        · rw [if_neg hr, if_neg fun hx => hr hx.2]; exact hx
      · rw [hc', wrTo_getD, if_neg fun hx => hi (by omega)]; exact fetch_out h hv hb hi
      · rw [hc', wrTo_getD]
        split
        · rfl
        · exact fetch_first h hv hb hin hm h1 h2
      · rw [hc', wrTo_getD]
        split
        · intro _; rfl
        · exact fetch_dk h hv hb a bs.length i
  · rw [if_neg h0, if_neg h0]
    exact h.more
end Go.Proofs.YtnigfiljenfgjaaGreat

/- The disk: forgetting, and what is dirty, are alike. -/
set_option maxRecDepth 100000
set_option linter.unusedVariables false
set_option linter.unusedSimpArgs false
namespace Go.Proofs.YtnigfiljenfgjaaGreat
open Go.Sh Go.RowKit
variable {N : Nat} {σ : Sys} {ρ ρ' : RSys}
theorem Ok.page_lt (h : Ok N σ ρ) {u : Nat} (hu : u < 4) {name : ByteArray} {b : List UInt8} (hb : AL.get ρ.files name = some b) {kk : Nat} (hP : Ps σ u name kk = true) : kk * 32 < b.length := by
  have hp := h.sim.p u hu name b hb kk
  rw [hP] at hp
  by_cases hl : kk * 32 < b.length
  · exact hl
  · rw [h.past hu hb (by omega)] at hp; cases hp
theorem Ps_iff {u : Nat} {name : ByteArray} {kk : Nat} : Ps σ u name kk = true ↔ (name, (kk : Int)) ∈ (σ.caches u).map Prod.fst := by
  rw [Ps]
  cases hg : AL.get (σ.caches u) (name, (kk : Int)) with
  | none => exact ⟨fun h => (by cases h), fun h => absurd h (AL.get_none.1 hg)⟩
  | some pg => exact ⟨fun _ => List.mem_map_of_mem (f := Prod.fst) (AL.get_mem hg), fun _ => rfl⟩
theorem Ok.pages (h : Ok N σ ρ) {u : Nat} (hu : u < 4) (hnd : ((σ.caches u).map Prod.fst).Nodup) {name : ByteArray} {b : List UInt8} (hb : AL.get ρ.files name = some b) {ps : List Place} (hp : ps.Perm (((σ.caches u).map Prod.fst).filter (inPages name 0 65536))) :
    (ps.map fun p => p.2.toNat).Perm ((List.range 2048).filter (Ps σ u name)) /\ ∀ p ∈ ps, p = (name, ((p.2.toNat : Nat) : Int)) := by
  have hsz := h.rgood.fsz name b hb
  have hps : ∀ p ∈ ps, p = (name, ((p.2.toNat : Nat) : Int)) /\ p ∈ (σ.caches u).map Prod.fst := fun p hm => by
    obtain ⟨h1, h2⟩ := List.mem_filter.1 (hp.mem_iff.1 hm)
    obtain ⟨q, hq, e⟩ := List.mem_map.1 h1
    have hn := (h.good.near u hu q hq).1
    rw [e] at hn
    refine ⟨?_, h1⟩
    obtain ⟨a, c⟩ := p
    have h3 := (of_decide_eq_true h2).1
    simp only at h3 hn ⊢
    rw [h3, Int.toNat_of_nonneg hn]
  have hpn : ps.Nodup := hp.nodup_iff.2 (hnd.sublist List.filter_sublist)
  refine ⟨?_, fun p hm => (hps p hm).1⟩
  refine (List.perm_ext_iff_of_nodup ?_ (List.Nodup.sublist List.filter_sublist List.nodup_range)).2 fun kk => ?_
  · rw [List.Nodup, List.pairwise_map]
    refine List.Pairwise.imp_of_mem (fun {a c} ha hc hac e => hac ?_) hpn
    rw [(hps a ha).1, (hps c hc).1, e]
  · rw [List.mem_map, List.mem_filter, List.mem_range]
    constructor
    · rintro ⟨p, hm, rfl⟩
      obtain ⟨h1, h2⟩ := hps p hm
      rw [h1] at h2
      have hP := Ps_iff.2 h2
      have := h.page_lt hu hb hP
      exact ⟨by omega, hP⟩
    · rintro ⟨hlt, hP⟩
      refine ⟨(name, (kk : Int)), hp.mem_iff.2 (List.mem_filter.2 ⟨Ps_iff.1 hP, ?_⟩), by simp⟩
      exact decide_eq_true ⟨rfl, by show (kk : Int) * 32 < 0 + 65536; omega, by show (0 : Int) < ((kk : Int) + 1) * 32; omega⟩
theorem Ok.page_di (h : Ok N σ ρ) {u : Nat} (hu : u < 4) {name : ByteArray} {b : List UInt8} (hb : AL.get ρ.files name = some b) {kk j : Nat} (hj : j < 32) : (pageOf σ u (name, (kk : Int))).di j = ((ρ.cOf u name).getD (kk * 32 + j) B3.zero).di := by
  have := (h.sim.v u hu name b hb (kk * 32 + j)).2.1
  rw [Vw, show (kk * 32 + j) / 32 = kk by omega, show (kk * 32 + j) % 32 = j by omega] at this
  exact this
theorem any_congr {α : Type} {l : List α} {f g : α -> Bool} (h : ∀ x ∈ l, f x = g x) : l.any f = l.any g := by
  induction l with
  | nil => rfl
  | cons a l ih => rw [List.any_cons, List.any_cons, h a (List.mem_cons_self ..), ih fun x hx => h x (List.mem_cons_of_mem _ hx)]
theorem Ok.page_clean (h : Ok N σ ρ) {u : Nat} (hu : u < 4) {name : ByteArray} {b : List UInt8} (hb : AL.get ρ.files name = some b) (kk : Nat) : clean (pageOf σ u (name, (kk : Int))) = !pgD (ρ.cOf u name) kk := by
  rw [clean, pgD]
  congr 1
  exact any_congr fun j hj => h.page_di hu hb (List.mem_range.1 hj)
theorem range_cut {f : Nat -> Bool} {a : Nat} : ∀ {k : Nat}, (∀ i, a <= i -> f i = false) -> (List.range (a + k)).filter f = (List.range a).filter f
  | 0, _ => rfl
  | k + 1, h => by rw [← Nat.add_assoc, List.range_succ, List.filter_append, range_cut h]; simp [h (a + k) (by omega)]
theorem range_same {f : Nat -> Bool} {a c : Nat} (h : ∀ i, min a c <= i -> f i = false) : (List.range a).filter f = (List.range c).filter f := by
  rcases Nat.le_total a c with hl | hl
  · obtain ⟨k, rfl⟩ := Nat.exists_eq_add_of_le hl
    exact (range_cut fun i hi => h i (by omega)).symm
  · obtain ⟨k, rfl⟩ := Nat.exists_eq_add_of_le hl
    exact range_cut fun i hi => h i (by omega)
theorem fgL_at {u : Nat} (hn : ((σ.caches u).map Prod.fst).Nodup) (f : Place -> Bool) (p : Place) : AL.get (fgL u f σ) p = if (AL.get (σ.caches u) p).isSome && (f p && clean (pageOf σ u p)) then none else AL.get (σ.caches u) p := by
  have hn2 := fgL_nodup hn f
  cases hg : AL.get (σ.caches u) p with
  | none =>
    simp only [Option.isSome_none, Bool.false_and, Bool.false_eq_true, if_false]
    exact AL.get_none.2 fun hm => AL.get_none.1 hg ((List.filter_sublist.map _).subset hm)
  | some pg =>
    have hpo : pageOf σ u p = pg := by simp [pageOf, hg]
    rw [hpo]
    cases hc : (f p && clean pg) with
    | false =>
      simp only [Option.isSome_some, Bool.true_and, Bool.false_eq_true, if_false]
      exact AL.get_of_mem hn2 (List.mem_filter.2 ⟨AL.get_mem hg, by simp only [hc]; rfl⟩)
    | true =>
      simp only [Option.isSome_some, Bool.true_and, if_true]
      refine AL.get_none.2 fun hm => ?_
      obtain ⟨q, hq, e⟩ := List.mem_map.1 hm
      obtain ⟨h1, h2⟩ := List.mem_filter.1 hq
      have := AL.get_of_mem hn h1
      rw [e, hg] at this
      rw [e, ← Option.some.inj this, hc] at h2
      cases h2
theorem fgTo_getD (c : List B3) (i : Nat) : (fgTo c c.length).getD i B3.zero = if fgP c (i / 32) then B3.zero else c.getD i B3.zero := by
  rw [fgTo, rm_getD]
  by_cases hl : i < c.length
  · rw [if_pos hl]
    by_cases hf : fgP c (i / 32) = true
    · rw [if_pos ⟨hl, hf⟩, if_pos hf]
    · rw [if_neg fun h => hf h.2, if_neg hf]
  · rw [if_neg hl]
    have : c[i]? = none := List.getElem?_eq_none (by omega)
    simp [List.getD, this]
theorem Ok.forget (h : Ok N σ ρ) {v : Nat} (hv : v < 4) (hnd : ((σ.caches v).map Prod.fst).Nodup) {name : ByteArray} {b : List UInt8} (hb : AL.get ρ.files name = some b) :
    Ok N (forgetS v name σ) (ρ.updC v name (fun c => fgTo c c.length)) /\ forgetN v name σ = fgN (ρ.cOf v name) (((ρ.cOf v name).length + 31) / 32) := by
  have hsz := h.rgood.fsz name b hb
  have hf0 : fgTo [] ([] : List B3).length = [] := rfl
  have hfgP : ∀ kk, fgP (ρ.cOf v name) kk = (Ps σ v name kk && clean (pageOf σ v (name, (kk : Int)))) := fun kk => by rw [fgP, h.page_clean hv hb, h.has hv hb, Bool.and_comm]
  have hget : ∀ x (kk : Nat), AL.get ((forgetS v name σ).caches v) (x, (kk : Int)) = if x = name /\ fgP (ρ.cOf v name) kk = true then none else AL.get (σ.caches v) (x, (kk : Int)) := fun x kk => by
    rw [forgetS, setCache_at, fgL_at hnd]
    by_cases e : x = name
    · subst e
      rw [hfgP]
      cases hP : Ps σ v x kk with
      | false =>
        have : (AL.get (σ.caches v) (x, (kk : Int))).isSome = false := hP
        rw [this]; simp
      | true =>
        have h1 : (AL.get (σ.caches v) (x, (kk : Int))).isSome = true := hP
        have h2 : inPages x 0 65536 (x, (kk : Int)) = true := by
          have := h.page_lt hv hb hP
          exact decide_eq_true ⟨rfl, by show (kk : Int) * 32 < 0 + 65536; omega, by show (0 : Int) < ((kk : Int) + 1) * 32; omega⟩
        rw [h1, h2]; simp
    · have : inPages name 0 65536 (x, (kk : Int)) = false := decide_eq_false fun hx => e hx.1
      rw [this]; simp [e]
  have hoth : ∀ w, w ≠ v -> (forgetS v name σ).caches w = σ.caches w := fun w hw => by simp [forgetS, Sys.setCache, hw]
  have hsub : ∀ w q, q ∈ (forgetS v name σ).caches w -> q ∈ σ.caches w := fun w q hq => by
    by_cases e : w = v
    · subst e; rw [forgetS, setCache_at] at hq; exact List.filter_sublist.subset hq
    · rw [hoth w e] at hq; exact hq
  have hlen : ∀ w, ((forgetS v name σ).caches w).length <= (σ.caches w).length := fun w => by
    by_cases e : w = v
    · subst e; rw [forgetS, setCache_at]; exact List.length_filter_le _ _
    · rw [hoth w e]; exact Nat.le_refl _
  have hF := updC_files ρ v name (fun c => fgTo c c.length)
  have hc' : (ρ.updC v name (fun c => fgTo c c.length)).cOf v name = fgTo (ρ.cOf v name) (ρ.cOf v name).length := by rw [cOf_updC _ _ _ hf0, if_pos ⟨rfl, rfl⟩]
  have hro : ∀ x y, ¬ (x = v /\ y = name) -> (ρ.updC v name (fun c => fgTo c c.length)).cOf x y = ρ.cOf x y := fun x y hne => by rw [cOf_updC _ _ _ hf0, if_neg hne]
  refine ⟨⟨?_, ⟨h.good.small, fun w hw q hq => h.good.near w hw q (hsub w q hq), fun w hw => Nat.le_trans (hlen w) (h.good.cnt w hw), fun w hw q hq => h.good.file w hw q (hsub w q hq)⟩, ⟨fun x f hx => h.rgood.fsz x f (by rw [← hF.1]; exact hx), fun w hw x f hx => ?_⟩, fun w hw => Nat.le_trans (hlen w) (h.sizes w hw), by rw [hF.2]; exact h.locks, by rw [hF.2]; exact h.held, by rw [hF.1]; exact h.files⟩, ?_⟩
  · refine h.sim.upd hv hb (fun x => by rw [hF.1]; exact h.sim.fg x) (by rw [hF.1]; exact h.sim.fn) (by rw [hF.2]; exact h.sim.lk) h.sim.nd (fun x => by rw [hF.1]) (fun w x hw hne kk => ?_) (fun w x _ hne => hro w x hne) (fun i => ?_) (fun kk => ?_) (fun i => ?_)
    · by_cases e : w = v
      · subst e; rw [hget, if_neg fun hx => hne ⟨rfl, hx.1⟩]
      · rw [hoth w e]
    · rw [hc', fgTo_getD]
      have hV : Vw (forgetS v name σ) v name i = if fgP (ρ.cOf v name) (i / 32) then B3.zero else Vw σ v name i := by
        simp only [Vw, pageOf]
        rw [hget]
        by_cases hf : fgP (ρ.cOf v name) (i / 32) = true
        · rw [if_pos ⟨rfl, hf⟩, if_pos hf]; rfl
        · rw [if_neg fun hx => hf hx.2, if_neg hf]
      rw [hV]
      split
      · exact VE.refl _
      · exact h.sim.v v hv name b hb i
    · rw [hc', fgTo_getD, show kk * 32 / 32 = kk by omega, Ps, hget]
      by_cases hf : fgP (ρ.cOf v name) kk = true
      · rw [if_pos ⟨rfl, hf⟩, if_pos hf]; rfl
      · rw [if_neg fun hx => hf hx.2, if_neg hf]; exact h.sim.p v hv name b hb kk
    · rw [hc', fgTo_getD]
      split
      · simp [B3.zero]
      · exact h.sim.dk v hv name b hb i
  · rw [hF.1] at hx
    by_cases e : w = v /\ x = name
    · obtain ⟨rfl, rfl⟩ := e
      rw [hc', fgTo, rm_len]; exact h.rgood.cin w hw x f hx
    · rw [hro w x e]; exact h.rgood.cin w hw x f hx
  · obtain ⟨hk1, hk2⟩ := h.pages hv hnd hb (List.Perm.refl (((σ.caches v).map Prod.fst).filter (inPages name 0 65536)))
    have hN : forgetN v name σ = ((((σ.caches v).map Prod.fst).filter (inPages name 0 65536)).filter fun p => clean (pageOf σ v p)).length := by
      rw [forgetN, List.filter_filter, List.filter_map, List.length_map]
      congr 1
      refine List.filter_congr fun q hq => ?_
      have : pageOf σ v q.1 = q.2 := by simp [pageOf, AL.get_of_mem hnd hq]
      simp only [Function.comp_apply, this, Bool.and_comm]
    generalize ((σ.caches v).map Prod.fst).filter (inPages name 0 65536) = ks at hk1 hk2 hN
    have h1 : (ks.filter fun p => clean (pageOf σ v p)).length = ((ks.map fun p => p.2.toNat).filter fun kk : Nat => clean (pageOf σ v (name, (kk : Int)))).length := by
      rw [List.filter_map, List.length_map]
      congr 1
      refine List.filter_congr fun p hp => ?_
      rw [Function.comp_apply, ← hk2 p hp]
    rw [hN, h1, (hk1.filter _).length_eq, List.filter_filter, fgN]
    rw [show (fun a : Nat => clean (pageOf σ v (name, (a : Int))) && Ps σ v name a) = fgP (ρ.cOf v name) from funext fun kk => by rw [hfgP, Bool.and_comm]]
    congr 1
    refine range_same fun i hi => ?_
    rw [hfgP]
    cases hP : Ps σ v name i with
    | false => rfl
    | true =>
      exfalso
      have h2 := h.sim.p v hv name b hb i
      rw [hP] at h2
      have h3 := h.page_lt hv hb hP
      have h4 : i * 32 < (ρ.cOf v name).length := by
        by_cases hl : i * 32 < (ρ.cOf v name).length
        · exact hl
        · have : (ρ.cOf v name)[i * 32]? = none := List.getElem?_eq_none (by omega)
          simp [List.getD, this, B3.zero] at h2
      omega
end Go.Proofs.YtnigfiljenfgjaaGreat

/- The disk: what is dirty is alike. -/
set_option maxRecDepth 100000
set_option linter.unusedVariables false
set_option linter.unusedSimpArgs false
namespace Go.Proofs.YtnigfiljenfgjaaGreat
open Go.Sh Go.RowKit
variable {N : Nat} {σ : Sys} {ρ ρ' : RSys}
theorem sorted_eq : ∀ {a b : List Int}, a.Perm b -> a.Pairwise (· <= ·) -> b.Pairwise (· <= ·) -> a = b
  | [], b, h, _, _ => by rw [h.symm.eq_nil]
  | x :: a, [], h, _, _ => by have := h.eq_nil; cases this
  | x :: a, y :: b, h, h1, h2 => by
    have h1' := List.pairwise_cons.1 h1
    have h2' := List.pairwise_cons.1 h2
    have hx : x = y := by
      have m1 := h.mem_iff.1 (List.mem_cons_self (a := x) (l := a))
      have m2 := h.mem_iff.2 (List.mem_cons_self (a := y) (l := b))
      rcases List.mem_cons.1 m1 with e | m1
      · exact e
      · rcases List.mem_cons.1 m2 with e | m2
        · exact e.symm
        · have := h1'.1 y m2; have := h2'.1 x m1; omega
    subst hx
    rw [sorted_eq h.cons_inv h1'.2 h2'.2]
def dirtyP (c : List B3) (kk : Nat) : List Nat := ((List.range 32).filter fun j => (c.getD (kk * 32 + j) B3.zero).di).map fun j => kk * 32 + j
theorem dirty_pages (c : List B3) : ∀ Q : Nat, (List.range (Q * 32)).filter (fun i => (c.getD i B3.zero).di) = (List.range Q).flatMap (dirtyP c)
  | 0 => rfl
  | Q + 1 => by
    rw [show (Q + 1) * 32 = Q * 32 + 32 by omega, List.range_add, List.filter_append, dirty_pages c Q, List.range_succ (n := Q), List.flatMap_append, List.filter_map]
    congr 1
    rw [List.flatMap_cons, List.flatMap_nil, List.append_nil]
    rfl
theorem dirtyL_pages {c : List B3} (hc : c.length <= 65536) : dirtyL c = (List.range 2048).flatMap (dirtyP c) := by
  rw [← dirty_pages, dirtyL]
  refine range_same fun i hi => ?_
  have : c[i]? = none := List.getElem?_eq_none (by omega)
  simp [List.getD, this, B3.zero]
theorem flatMap_filter {α β : Type} {p : α -> Bool} {g : α -> List β} : ∀ (l : List α), (∀ x, p x = false -> g x = []) -> (l.filter p).flatMap g = l.flatMap g
  | [], _ => rfl
  | x :: l, h => by
    cases hp : p x with
    | true => rw [List.filter_cons_of_pos (by rw [hp]), List.flatMap_cons, List.flatMap_cons, flatMap_filter l h]
    | false => rw [List.filter_cons_of_neg (by rw [hp]; decide), List.flatMap_cons, h x hp, flatMap_filter l h]; rfl
theorem Ok.raw (h : Ok N σ ρ) {v : Nat} (hv : v < 4) (hnd : ((σ.caches v).map Prod.fst).Nodup) {name : ByteArray} {b : List UInt8} (hb : AL.get ρ.files name = some b) {ps : List Place} (hp : ps.Perm (((σ.caches v).map Prod.fst).filter (inPages name 0 65536))) :
    (rawOf σ v ps).Perm ((dirtyL (ρ.cOf v name)).map fun i : Nat => (i : Int)) := by
  obtain ⟨hk1, hk2⟩ := h.pages hv hnd hb hp
  have hcl : (ρ.cOf v name).length <= 65536 := Nat.le_trans (h.rgood.cin v hv name b hb) (h.rgood.fsz name b hb)
  have h1 : rawOf σ v ps = (ps.map fun p => p.2.toNat).flatMap fun kk : Nat => rawP (pageOf σ v (name, (kk : Int))) (kk : Int) 32 := by
    rw [List.flatMap_map, rawOf]
    refine flatMap_congr' fun p hpm => ?_
    have := hk2 p hpm
    have h3 : ((p.2.toNat : Nat) : Int) = p.2 := by rw [this]; simp
    rw [← this, h3]
  have h2 : ∀ kk : Nat, rawP (pageOf σ v (name, (kk : Int))) (kk : Int) 32 = (dirtyP (ρ.cOf v name) kk).map fun i : Nat => (i : Int) := fun kk => by
    rw [rawP, dirtyP, List.map_map]
    rw [show (List.range 32).filter (pageOf σ v (name, (kk : Int))).di = (List.range 32).filter fun j => ((ρ.cOf v name).getD (kk * 32 + j) B3.zero).di from List.filter_congr fun j hj => h.page_di hv hb (List.mem_range.1 hj)]
    exact List.map_congr_left fun j _ => by simp
  rw [h1]
  refine (List.Perm.flatMap_right _ hk1).trans ?_
  rw [flatMap_filter]
  · rw [dirtyL_pages hcl, List.map_flatMap]
    rw [flatMap_congr' fun kk _ => h2 kk]
  · intro kk hP
    have hn : AL.get (σ.caches v) (name, (kk : Int)) = none := by simpa [Ps] using hP
    rw [page_none hn]; rfl
theorem Ok.dirty (h : Ok N σ ρ) {v : Nat} (hv : v < 4) (hnd : ((σ.caches v).map Prod.fst).Nodup) {name : ByteArray} {b : List UInt8} (hb : AL.get ρ.files name = some b) {ps : List Place} (hp : ps.Perm (((σ.caches v).map Prod.fst).filter (inPages name 0 65536))) {zs : List Int} (hz : zs.Perm (rawOf σ v ps)) (hs : zs.Pairwise (· <= ·)) :
    zs.map iV = (dirtyL (ρ.cOf v name)).map natV := by
  have h1 := sorted_eq (hz.trans (h.raw hv hnd hb hp)) hs (by
    rw [List.pairwise_map]
    exact (List.Pairwise.sublist List.filter_sublist List.pairwise_lt_range).imp fun h => by omega)
  rw [h1, List.map_map]; rfl
theorem wrF_get (pg : Page) (kk : Nat) (f : List UInt8) : ∀ (m : Nat) (i : Nat), m <= 32 -> (wrF pg kk f m)[i]? = if i < f.length /\ i / 32 = kk /\ i % 32 < m /\ pg.di (i % 32) = true then some (pg.b (i % 32)) else f[i]?
  | 0, i, _ => by rw [if_neg (by omega)]; rfl
  | m + 1, i, hm => by
    have ih := wrF_get pg kk f m i (by omega)
    have hl := wrF_len pg kk f m
    rw [wrF]
    by_cases hd : pg.di m = true
    · rw [if_pos hd]
      by_cases e : i = kk * 32 + m
      · subst e
        have e1 : (kk * 32 + m) % 32 = m := by omega
        by_cases hlt : kk * 32 + m < f.length
        · rw [List.getElem?_set_self (by omega), if_pos ⟨hlt, by omega, by omega, by rw [e1]; exact hd⟩, e1]
        · rw [if_neg fun h => hlt h.1, List.getElem?_eq_none (by rw [List.length_set]; omega), List.getElem?_eq_none (by omega)]
      · rw [List.getElem?_set_ne (fun h => e h.symm), ih]
        by_cases h2 : i < f.length /\ i / 32 = kk /\ i % 32 < m /\ pg.di (i % 32) = true
        · rw [if_pos h2, if_pos ⟨h2.1, h2.2.1, by omega, h2.2.2.2⟩]
        · rw [if_neg h2, if_neg fun h => h2 ⟨h.1, h.2.1, by omega, h.2.2.2⟩]
    · rw [if_neg hd, ih]
      by_cases h2 : i < f.length /\ i / 32 = kk /\ i % 32 < m /\ pg.di (i % 32) = true
      · rw [if_pos h2, if_pos ⟨h2.1, h2.2.1, by omega, h2.2.2.2⟩]
      · rw [if_neg h2, if_neg fun h => h2 ⟨h.1, h.2.1, by
          rcases Nat.lt_or_eq_of_le (Nat.le_of_lt_succ h.2.2.1) with h3 | h3
          · exact h3
          · rw [h3] at h; exact absurd h.2.2.2 hd, h.2.2.2⟩]
theorem wrN_eq (pg : Page) : ∀ m, wrN pg m = ((List.range m).filter pg.di).length
  | 0 => rfl
  | m + 1 => by
    rw [wrN, List.range_succ, List.filter_append, List.length_append, wrN_eq pg m]
    cases hd : pg.di m <;> simp [hd]
structure Wrote (σ σ' : Sys) (u : Nat) (name : ByteArray) (K : List Nat) (f f' : List UInt8) : Prop where
  file : ∀ x, AL.get σ'.files x = if x = name then some f' else AL.get σ.files x
  keys : σ'.files.map Prod.fst = σ.files.map Prod.fst
  len : f'.length = f.length
  byte : ∀ i, f'[i]? = if i < f.length /\ i / 32 ∈ K /\ (pageOf σ u (name, ((i / 32 : Nat) : Int))).di (i % 32) = true then some ((pageOf σ u (name, ((i / 32 : Nat) : Int))).b (i % 32)) else f[i]?
  page : ∀ kk : Nat, kk ∈ K -> AL.get (σ'.caches u) (name, (kk : Int)) = some (clearTo 32 (pageOf σ u (name, (kk : Int))))
  oth : ∀ v q, ¬ (v = u /\ ∃ kk ∈ K, q = (name, ((kk : Nat) : Int))) -> AL.get (σ'.caches v) q = AL.get (σ.caches v) q
  locks : σ'.locks = σ.locks
theorem keys_put_same {κ ν : Type} [DecidableEq κ] {l : List (κ × ν)} {k : κ} {v : ν} (h : AL.get l k ≠ none) : (AL.put l k v).map Prod.fst = l.map Prod.fst := by
  induction l with
  | nil => exact absurd rfl h
  | cons p l ih =>
    obtain ⟨a, b⟩ := p
    simp only [AL.put]
    by_cases e : a = k
    · rw [if_pos e]; simp
    · rw [if_neg e]
      simp only [AL.get, if_neg e] at h
      simp [ih h]
theorem wrote : ∀ (K : List Nat) (σ : Sys) (n : Nat) (u : Nat) (name : ByteArray) (f : List UInt8), K.Nodup -> (∀ kk ∈ K, Ps σ u name kk = true) -> AL.get σ.files name = some f ->
    ∃ f', Wrote σ (wrAll u name (K.map fun kk : Nat => (name, (kk : Int))) (σ, n)).1 u name K f f' /\ (wrAll u name (K.map fun kk : Nat => (name, (kk : Int))) (σ, n)).2 = n + (rawOf σ u (K.map fun kk : Nat => (name, (kk : Int)))).length
  | [], σ, n, u, name, f, _, _, hf => ⟨f, ⟨fun x => (by by_cases e : x = name <;> simp [e, hf, wrAll]), rfl, rfl, fun i => (by simp), fun kk h => (by cases h), fun _ _ _ => rfl, rfl⟩, by simp [wrAll, rawOf]⟩
  | kk :: K, σ, n, u, name, f, hn, hP, hf => by
    simp only [List.nodup_cons] at hn
    obtain ⟨pg, hpg⟩ : ∃ pg, pg = pageOf σ u (name, (kk : Int)) := ⟨_, rfl⟩
    obtain ⟨σ1, hσ1⟩ : ∃ σ1, σ1 = writtenS σ u name kk := ⟨_, rfl⟩
    have hfo : fileOf σ name = f := by simp [fileOf, hf]
    have hg1 : ∀ v q, AL.get (σ1.caches v) q = if v = u /\ (name, (kk : Int)) = q then some (clearTo 32 pg) else AL.get (σ.caches v) q := fun v q => by
      rw [hσ1, writtenS, setPage_get, ← hpg]
    have hf1 : σ1.files = AL.put σ.files name (wrF pg kk f 32) := by rw [hσ1, writtenS, hpg, hfo]; rfl
    have hgf1 : AL.get σ1.files name = some (wrF pg kk f 32) := by rw [hf1, AL.get_put, if_pos rfl]
    have hpo : ∀ k' : Nat, k' ≠ kk -> pageOf σ1 u (name, (k' : Int)) = pageOf σ u (name, (k' : Int)) := fun k' hne => by
      rw [pageOf, pageOf, hg1, if_neg]
      rintro ⟨_, e⟩
      simp only [Prod.mk.injEq, true_and] at e
      omega
    have hPs1 : ∀ k' ∈ K, Ps σ1 u name k' = true := fun k' hk' => by
      have hne : k' ≠ kk := fun e => hn.1 (e ▸ hk')
      have := hP k' (List.mem_cons_of_mem _ hk')
      rw [Ps, hg1, if_neg]
      · exact this
      · rintro ⟨_, e⟩
        simp only [Prod.mk.injEq, true_and] at e
        omega
    have hstep : wrAll u name ((kk :: K).map fun kk : Nat => (name, (kk : Int))) (σ, n) = wrAll u name (K.map fun kk : Nat => (name, (kk : Int))) (σ1, n + wrN pg 32) := by
      rw [List.map_cons, wrAll, hσ1, hpg]; rfl
    obtain ⟨f', W, hc⟩ := wrote K σ1 (n + wrN pg 32) u name (wrF pg kk f 32) hn.2 hPs1 hgf1
    rw [hstep]
    have hlen := wrF_len pg kk f 32
    refine ⟨f', ⟨fun x => ?_, ?_, by rw [W.len, hlen], fun i => ?_, fun k' hk' => ?_, fun v q hq => ?_, by rw [W.locks, hσ1]; rfl⟩, ?_⟩
    · rw [W.file]
      by_cases e : x = name
      · rw [if_pos e, if_pos e]
      · rw [if_neg e, if_neg e, hf1, AL.get_put, if_neg (Ne.symm e)]
    · rw [W.keys, hf1, keys_put_same (by rw [hf]; simp)]
    · rw [W.byte, hlen, wrF_get _ _ _ _ _ (Nat.le_refl _)]
      by_cases e : i / 32 = kk
      · have hnK : i / 32 ∉ K := by rw [e]; exact hn.1
        rw [if_neg fun h => hnK h.2.1, e, ← hpg]
        by_cases h2 : i < f.length /\ pg.di (i % 32) = true
        · rw [if_pos ⟨h2.1, rfl, by omega, h2.2⟩, if_pos ⟨h2.1, by simp, h2.2⟩]
        · rw [if_neg fun h => h2 ⟨h.1, h.2.2.2⟩, if_neg fun h => h2 ⟨h.1, h.2.2⟩]
      · rw [hpo _ e]
        rw [show (if i < f.length /\ i / 32 = kk /\ i % 32 < 32 /\ pg.di (i % 32) = true then some (pg.b (i % 32)) else f[i]?) = f[i]? from if_neg fun h => e h.2.1]
        by_cases h2 : i < f.length /\ i / 32 ∈ K /\ (pageOf σ u (name, ((i / 32 : Nat) : Int))).di (i % 32) = true
        · rw [if_pos h2, if_pos ⟨h2.1, List.mem_cons_of_mem _ h2.2.1, h2.2.2⟩]
        · rw [if_neg h2, if_neg fun h => h2 ⟨h.1, (List.mem_cons.1 h.2.1).resolve_left e, h.2.2⟩]
    · rcases List.mem_cons.1 hk' with rfl | hk'
      · rw [W.oth u _ fun ⟨_, k2, hk2, e⟩ => hn.1 (by
          simp only [Prod.mk.injEq, true_and] at e
          rw [show k' = k2 by omega]; exact hk2), hg1, if_pos ⟨rfl, rfl⟩, hpg]
      · rw [W.page k' hk', hpo k' fun e => hn.1 (e ▸ hk')]
    · rw [W.oth v q fun ⟨e1, k2, hk2, e⟩ => hq ⟨e1, k2, List.mem_cons_of_mem _ hk2, e⟩, hg1, if_neg fun h => hq ⟨h.1, kk, List.mem_cons_self .., h.2.symm⟩]
    · rw [hc, wrN_eq]
      have : rawOf σ1 u (K.map fun kk : Nat => (name, (kk : Int))) = rawOf σ u (K.map fun kk : Nat => (name, (kk : Int))) := by
        refine flatMap_congr' fun p hp => ?_
        obtain ⟨k', hk', rfl⟩ := List.mem_map.1 hp
        rw [hpo k' fun e => hn.1 (e ▸ hk')]
      rw [this, List.map_cons, rawOf, rawOf, List.flatMap_cons, List.length_append, rawP, List.length_map, ← hpg]
      omega
end Go.Proofs.YtnigfiljenfgjaaGreat

/- The disk: flushing and unlocking are alike; so is locking. -/
set_option maxRecDepth 100000
set_option linter.unusedVariables false
set_option linter.unusedSimpArgs false
namespace Go.Proofs.YtnigfiljenfgjaaGreat
open Go.Sh Go.RowKit
variable {N : Nat} {σ : Sys} {ρ ρ' : RSys}
theorem Ok.pagesG (h : Ok N σ ρ) {u : Nat} (hu : u < 4) (hnd : ((σ.caches u).map Prod.fst).Nodup) {name : ByteArray} {at_ n : Int} {ps : List Place} (hp : ps.Perm (((σ.caches u).map Prod.fst).filter (inPages name at_ n))) :
    ∃ K : List Nat, ps = K.map (fun kk : Nat => (name, (kk : Int))) /\ K.Nodup /\ ∀ kk : Nat, kk ∈ K ↔ Ps σ u name kk = true /\ inPages name at_ n (name, (kk : Int)) = true := by
  have hps : ∀ p ∈ ps, p = (name, ((p.2.toNat : Nat) : Int)) /\ p ∈ (σ.caches u).map Prod.fst /\ inPages name at_ n p = true := fun p hm => by
    obtain ⟨h1, h2⟩ := List.mem_filter.1 (hp.mem_iff.1 hm)
    obtain ⟨q, hq, e⟩ := List.mem_map.1 h1
    have hn := (h.good.near u hu q hq).1
    rw [e] at hn
    refine ⟨?_, h1, h2⟩
    obtain ⟨a, c⟩ := p
    have h3 := (of_decide_eq_true h2).1
    simp only at h3 hn ⊢
    rw [h3, Int.toNat_of_nonneg hn]
  have hpn : ps.Nodup := hp.nodup_iff.2 (hnd.sublist List.filter_sublist)
  refine ⟨ps.map fun p => p.2.toNat, ?_, ?_, fun kk => ?_⟩
  · rw [List.map_map]
    refine Eq.trans (List.map_id ps).symm (List.map_congr_left fun p hm => ?_)
    exact (hps p hm).1
  · rw [List.Nodup, List.pairwise_map]
    refine List.Pairwise.imp_of_mem (fun {a c} ha hc hac e => hac ?_) hpn
    rw [(hps a ha).1, (hps c hc).1, e]
  · rw [List.mem_map]
    constructor
    · rintro ⟨p, hm, rfl⟩
      obtain ⟨h1, h2, h3⟩ := hps p hm
      rw [h1] at h2 h3
      exact ⟨Ps_iff.2 h2, h3⟩
    · rintro ⟨hP, hi⟩
      exact ⟨(name, (kk : Int)), hp.mem_iff.2 (List.mem_filter.2 ⟨Ps_iff.1 hP, hi⟩), by simp⟩
theorem Ok.wrote (h : Ok N σ ρ) {v : Nat} (hv : v < 4) {name : ByteArray} {b : List UInt8} (hb : AL.get ρ.files name = some b) {K : List Nat} (hK : K.Nodup) (hP : ∀ kk ∈ K, Ps σ v name kk = true) (M : Nat -> Bool)
    (hM : ∀ i, ((ρ.cOf v name).getD i B3.zero).di = true -> (M i = true ↔ i / 32 ∈ K)) : Ok N (wrAll v name (K.map fun kk : Nat => (name, (kk : Int))) (σ, 0)).1 (ρ.wr v name M) := by
  have hbs : AL.get σ.files name = some b := by rw [h.sim.fg]; exact hb
  cases hg : AL.get (ρ.caches v) name with
  | none =>
    have hc : ρ.cOf v name = [] := by simp [RSys.cOf, hg]
    have hK0 : K = [] := by
      cases K with
      | nil => rfl
      | cons kk K =>
        have h1 := hP kk (List.mem_cons_self ..)
        have h2 := h.sim.p v hv name b hb kk
        rw [h1, hc] at h2; simp [B3.zero] at h2
    subst hK0
    have hw : ρ.wr v name M = ρ := by unfold RSys.wr; rw [hg]
    rw [hw]; exact h
  | some l =>
    have hc : ρ.cOf v name = l := by simp [RSys.cOf, hg]
    rw [wr_some hb hg M]
    rw [hc] at hM
    obtain ⟨f', W, _⟩ := YtnigfiljenfgjaaGreat.wrote K σ 0 v name b hK hP hbs
    obtain ⟨g1, g2, _⟩ := wrAll_good hv h.good (K.map fun kk : Nat => (name, (kk : Int))) 0 (name := name) fun p hp => by
      obtain ⟨kk, hk, rfl⟩ := List.mem_map.1 hp
      exact ⟨Ps_iff.1 (hP kk hk), rfl⟩
    generalize (wrAll v name (K.map fun kk : Nat => (name, (kk : Int))) (σ, 0)).1 = σ' at W g1 g2
    have hll : l.length <= b.length := by rw [← hc]; exact h.rgood.cin v hv name b hb
    have hsim : ∀ i, VE (Vw σ v name i) (l.getD i B3.zero) := fun i => by rw [← hc]; exact h.sim.v v hv name b hb i
    have hdk : ∀ i, (l.getD i B3.zero).di = true -> (l.getD i B3.zero).is = true := fun i => by rw [← hc]; exact h.sim.dk v hv name b hb i
    have hdi : ∀ i, (pageOf σ v (name, ((i / 32 : Nat) : Int))).di (i % 32) = (l.getD i B3.zero).di := fun i => (hsim i).2.1
    have hf' : f' = wF M b l := by
      apply List.ext_getElem?
      intro i
      rw [W.byte, wF]
      by_cases hi : i < b.length
      · rw [rm_get _ hi, hdi]
        cases hd : (l.getD i B3.zero).di with
        | false =>
          rw [if_neg fun hx => by cases hx.2.2]
          simp [List.getD, List.getElem?_eq_getElem hi]
        | true =>
          have his := (hsim i).1
          rw [hdk i hd] at his
          by_cases hk : i / 32 ∈ K
          · rw [if_pos ⟨hi, hk, rfl⟩, (hM i hd).2 hk]
            have := (hsim i).2.2
            simp only [Vw, vw] at this
            rw [this]; rfl
          · have hMf : M i = false := by
              cases hm : M i with
              | false => rfl
              | true => exact absurd ((hM i hd).1 hm) hk
            rw [if_neg fun hx => hk hx.2.1, hMf]
            simp [List.getD, List.getElem?_eq_getElem hi]
      · rw [if_neg fun hx => hi hx.1, List.getElem?_eq_none (by omega), List.getElem?_eq_none (by rw [rm_len]; omega)]
    have hfl : (wF M b l).length = b.length := by rw [wF, rm_len]
    have hrf : ∀ x, AL.get (ρ.setFC v name (wF M b l) (wC M l)).files x = if name = x then some (wF M b l) else AL.get ρ.files x := fun x => by simp only [RSys.setFC, AL.get_put]
    have hrc : ∀ x y, (ρ.setFC v name (wF M b l) (wC M l)).cOf x y = if x = v /\ y = name then wC M l else ρ.cOf x y := fun x y => cOf_setC ρ v name (wC M l) x y
    have hcg : ∀ i, (wC M l).getD i B3.zero = if M i = true then { l.getD i B3.zero with di := false } else l.getD i B3.zero := fun i => by
      rw [wC, rm_getD]
      by_cases hi : i < l.length
      · rw [if_pos hi]
      · have h0 : l.getD i B3.zero = B3.zero := by
          have : l[i]? = none := List.getElem?_eq_none (by omega)
          simp [List.getD, this]
        rw [if_neg hi, h0]
        split <;> rfl
    refine ⟨?_, g1, ⟨fun x f hx => ?_, fun w hw x f hx => ?_⟩, fun w hw => ?_, h.locks, h.held, ?_⟩
    · refine h.sim.upd hv hb (fun x => ?_) ?_ (W.locks.trans h.sim.lk) (by rw [W.keys]; exact h.sim.nd) (fun x => ?_) (fun w x hw hne kk => ?_) (fun w x _ hne => by rw [hrc, if_neg hne]) (fun i => ?_) (fun kk => ?_) (fun i => ?_)
      · rw [W.file, hrf, hf', h.sim.fg]
        by_cases e : x = name
        · rw [if_pos e, if_pos e.symm]
        · rw [if_neg e, if_neg (Ne.symm e)]
      · have h1 := congrArg List.length W.keys
        rw [List.length_map, List.length_map] at h1
        show _ = (AL.put ρ.files name _).length
        rw [AL.length_put_old (by rw [hb]; simp), h1]; exact h.sim.fn
      · rw [hrf]
        by_cases e : name = x
        · rw [if_pos e, ← e, hb]; simp
        · rw [if_neg e]
      · exact W.oth w _ fun ⟨e1, k2, _, e2⟩ => hne ⟨e1, by simp only [Prod.mk.injEq] at e2; exact e2.1⟩
      · rw [hrc, if_pos ⟨rfl, rfl⟩, hcg]
        have hs := hsim i
        by_cases hk : i / 32 ∈ K
        · have hV : Vw σ' v name i = { Vw σ v name i with di := false } := by
            simp only [Vw]
            rw [show pageOf σ' v (name, ((i / 32 : Nat) : Int)) = clearTo 32 (pageOf σ v (name, ((i / 32 : Nat) : Int))) by rw [pageOf, W.page _ hk]; rfl]
            have : i % 32 < 32 := by omega
            simp [vw, clearTo, this]
          rw [hV]
          cases hd : (l.getD i B3.zero).di with
          | true =>
            rw [if_pos ((hM i hd).2 hk)]
            exact ⟨hs.1, rfl, hs.2.2⟩
          | false =>
            split
            · exact ⟨hs.1, rfl, hs.2.2⟩
            · exact ⟨hs.1, hd.symm, hs.2.2⟩
        · have hV : Vw σ' v name i = Vw σ v name i := by
            simp only [Vw, pageOf]
            rw [W.oth v _ fun ⟨_, k2, hk2, e2⟩ => hk (by
              simp only [Prod.mk.injEq, true_and] at e2
              rw [show i / 32 = k2 by omega]; exact hk2)]
          rw [hV]
          by_cases hm : M i = true
          · rw [if_pos hm]
            refine ⟨hs.1, ?_, hs.2.2⟩
            rw [hs.2.1]
            cases hd : (l.getD i B3.zero).di with
            | true => exact absurd ((hM i hd).1 hm) hk
            | false => rfl
          · rw [if_neg hm]; exact hs
      · rw [hrc, if_pos ⟨rfl, rfl⟩, hcg]
        have h1 : Ps σ' v name kk = Ps σ v name kk := by
          by_cases hk : kk ∈ K
          · rw [hP kk hk, Ps, W.page kk hk]; rfl
          · rw [Ps, Ps, W.oth v _ fun ⟨_, k2, hk2, e2⟩ => hk (by
              simp only [Prod.mk.injEq, true_and] at e2
              rw [show kk = k2 by omega]; exact hk2)]
        rw [h1, h.sim.p v hv name b hb kk, hc]
        split <;> rfl
      · rw [hrc, if_pos ⟨rfl, rfl⟩, hcg]
        split
        · intro hx; cases hx
        · exact hdk i
    · rw [hrf] at hx
      by_cases e : name = x
      · rw [if_pos e] at hx; cases hx
        rw [hfl]; exact h.rgood.fsz name b hb
      · rw [if_neg e] at hx; exact h.rgood.fsz x f hx
    · rw [hrf] at hx
      rw [hrc]
      by_cases e : name = x
      · rw [if_pos e] at hx; cases hx
        rw [hfl]
        split
        · rw [wC, rm_len]; exact hll
        · rw [← e]; exact h.rgood.cin w hw name b hb
      · rw [if_neg e] at hx
        rw [if_neg fun hx => e hx.2.symm]; exact h.rgood.cin w hw x f hx
    · have h1 := congrArg List.length (g2 w)
      rw [List.length_map, List.length_map] at h1
      rw [h1]; exact h.sizes w hw
    · show (AL.put ρ.files name _).length <= 8
      rw [AL.length_put_old (by rw [hb]; simp)]; exact h.files
theorem Ok.flush (h : Ok N σ ρ) {v : Nat} (hv : v < 4) (hnd : ((σ.caches v).map Prod.fst).Nodup) {name : ByteArray} {b : List UInt8} (hb : AL.get ρ.files name = some b) {ps : List Place} (hp : ps.Perm (((σ.caches v).map Prod.fst).filter (inPages name 0 65536))) :
    Ok N (wrAll v name ps (σ, 0)).1 (ρ.wr v name (fun i => decide (i ∈ dirtyL (ρ.cOf v name)))) /\ (wrAll v name ps (σ, 0)).2 = (dirtyL (ρ.cOf v name)).length := by
  obtain ⟨K, rfl, hK, hm⟩ := h.pagesG hv hnd hp
  have hbs : AL.get σ.files name = some b := by rw [h.sim.fg]; exact hb
  have hP : ∀ kk ∈ K, Ps σ v name kk = true := fun kk hk => ((hm kk).1 hk).1
  obtain ⟨f', W, hc⟩ := YtnigfiljenfgjaaGreat.wrote K σ 0 v name b hK hP hbs
  refine ⟨h.wrote hv hb hK hP _ fun i hd => ?_, ?_⟩
  · have hil : i < (ρ.cOf v name).length := by
      by_cases hl : i < (ρ.cOf v name).length
      · exact hl
      · have : (ρ.cOf v name)[i]? = none := List.getElem?_eq_none (by omega)
        simp [List.getD, this, B3.zero] at hd
    have hin : i ∈ dirtyL (ρ.cOf v name) := List.mem_filter.2 ⟨List.mem_range.2 hil, hd⟩
    have hPi : Ps σ v name (i / 32) = true := by
      cases hg : AL.get (σ.caches v) (name, ((i / 32 : Nat) : Int)) with
      | some pg => simp only [Ps, hg]; rfl
      | none =>
        have h1 := (h.sim.v v hv name b hb i).2.1
        rw [Vw_none hg, hd] at h1; cases h1
    have hlt := h.page_lt hv hb hPi
    have hsz := h.rgood.fsz name b hb
    refine ⟨fun _ => (hm _).2 ⟨hPi, decide_eq_true ⟨rfl, ?_, ?_⟩⟩, fun _ => decide_eq_true hin⟩
    · show ((i / 32 : Nat) : Int) * 32 < 0 + 65536; omega
    · show (0 : Int) < (((i / 32 : Nat) : Int) + 1) * 32; omega
  · rw [hc, (h.raw hv hnd hb hp).length_eq, List.length_map]; omega
theorem inPages_nat (name : ByteArray) (a m kk : Nat) (hm : 1 <= m) : (inPages name (a : Int) (m : Int) (name, (kk : Int)) = true) ↔ (a / 32 <= kk /\ kk <= (a + m - 1) / 32) := by
  unfold inPages
  rw [decide_eq_true_iff]
  constructor
  · rintro ⟨_, h1, h2⟩
    have h1 : (kk : Int) * 32 < (a : Int) + (m : Int) := h1
    have h2 : (a : Int) < ((kk : Int) + 1) * 32 := h2
    omega
  · rintro ⟨h1, h2⟩
    refine ⟨rfl, ?_, ?_⟩
    · show (kk : Int) * 32 < (a : Int) + (m : Int); omega
    · show (a : Int) < ((kk : Int) + 1) * 32; omega
theorem Ok.unlock (h : Ok N σ ρ) {v : Nat} (hv : v < 4) (hnd : ((σ.caches v).map Prod.fst).Nodup) {name : ByteArray} {b : List UInt8} (hb : AL.get ρ.files name = some b) {a m : Nat} (hm1 : 1 <= m) {ps : List Place} (hp : ps.Perm (((σ.caches v).map Prod.fst).filter (inPages name (a : Int) (m : Int)))) (lk : Lock) :
    Ok N { (wrAll v name ps (σ, 0)).1 with locks := σ.locks.erase lk } { ρ.wr v name (tch (ρ.cOf v name) a m) with held := ρ.held.erase lk } := by
  obtain ⟨K, rfl, hK, hm⟩ := h.pagesG hv hnd hp
  have hP : ∀ kk ∈ K, Ps σ v name kk = true := fun kk hk => ((hm kk).1 hk).1
  have h1 := h.wrote hv hb hK hP (tch (ρ.cOf v name) a m) fun i hd => by
    have his := h.sim.dk v hv name b hb i hd
    have hPi : Ps σ v name (i / 32) = true := by
      cases hg : AL.get (σ.caches v) (name, ((i / 32 : Nat) : Int)) with
      | some pg => simp only [Ps, hg]; rfl
      | none =>
        have h1 := (h.sim.v v hv name b hb i).2.1
        rw [Vw_none hg, hd] at h1; cases h1
    rw [hm, tch, his, inPages_nat _ _ _ _ hm1, inPg]
    simp [hPi]
  have hlk : ∀ l ∈ ρ.held.erase lk, l ∈ ρ.held := fun l hl => List.mem_of_mem_erase hl
  exact ⟨⟨h1.sim.fg, h1.sim.fn, by show σ.locks.erase lk = ρ.held.erase lk; rw [h.sim.lk], h1.sim.v, h1.sim.p, h1.sim.dk, h1.sim.nc, h1.sim.nd⟩, ⟨h1.good.small, h1.good.near, h1.good.cnt, h1.good.file⟩, ⟨h1.rgood.fsz, h1.rgood.cin⟩, h1.sizes, fun l hl => h.locks l (hlk l hl), by show (ρ.held.erase lk).length <= N; exact Nat.le_trans (List.erase_sublist.length_le) h.held, h1.files⟩
end Go.Proofs.YtnigfiljenfgjaaGreat

/- The disk: locking and dropping are alike. -/
set_option maxRecDepth 100000
set_option linter.unusedVariables false
set_option linter.unusedSimpArgs false
namespace Go.Proofs.YtnigfiljenfgjaaGreat
open Go.Sh Go.RowKit
variable {N : Nat} {σ : Sys} {ρ ρ' : RSys}
theorem refAll_get (u : Nat) (name : ByteArray) (f : List UInt8) : ∀ (K : List Nat) (σ : Sys), K.Nodup -> AL.get σ.files name = some f ->
    (∀ kk : Nat, kk ∈ K -> AL.get ((refAll u name (K.map fun kk : Nat => (name, (kk : Int))) σ).caches u) (name, (kk : Int)) = some (refreshP f kk 32 (pageOf σ u (name, (kk : Int))))) /\
    (∀ v q, ¬ (v = u /\ ∃ kk ∈ K, q = (name, ((kk : Nat) : Int))) -> AL.get ((refAll u name (K.map fun kk : Nat => (name, (kk : Int))) σ).caches v) q = AL.get (σ.caches v) q)
  | [], σ, _, _ => ⟨fun kk h => (by cases h), fun _ _ _ => rfl⟩
  | kk :: K, σ, hn, hf => by
    simp only [List.nodup_cons] at hn
    have hfo : fileOf σ name = f := by simp [fileOf, hf]
    obtain ⟨σ1, hσ1⟩ : ∃ σ1, σ1 = refreshS σ u name kk := ⟨_, rfl⟩
    have hg1 : ∀ v q, AL.get (σ1.caches v) q = if v = u /\ (name, (kk : Int)) = q then some (refreshP f kk 32 (pageOf σ u (name, (kk : Int)))) else AL.get (σ.caches v) q := fun v q => by
      rw [hσ1, refreshS, setPage_get, hfo]
    have hf1 : AL.get σ1.files name = some f := by rw [hσ1]; exact hf
    obtain ⟨i1, i2⟩ := refAll_get u name f K σ1 hn.2 hf1
    have hstep : refAll u name ((kk :: K).map fun kk : Nat => (name, (kk : Int))) σ = refAll u name (K.map fun kk : Nat => (name, (kk : Int))) σ1 := by rw [List.map_cons, refAll, hσ1]; rfl
    rw [hstep]
    have hpo : ∀ k' : Nat, k' ≠ kk -> pageOf σ1 u (name, (k' : Int)) = pageOf σ u (name, (k' : Int)) := fun k' hne => by
      rw [pageOf, pageOf, hg1, if_neg]
      rintro ⟨_, e⟩
      simp only [Prod.mk.injEq, true_and] at e
      omega
    refine ⟨fun k' hk' => ?_, fun v q hq => ?_⟩
    · rcases List.mem_cons.1 hk' with rfl | hk'
      · rw [i2 u _ fun ⟨_, k2, hk2, e⟩ => hn.1 (by
          simp only [Prod.mk.injEq, true_and] at e
          rw [show k' = k2 by omega]; exact hk2), hg1, if_pos ⟨rfl, rfl⟩]
      · rw [i1 k' hk', hpo k' fun e => hn.1 (e ▸ hk')]
    · rw [i2 v q fun ⟨e1, k2, hk2, e⟩ => hq ⟨e1, k2, List.mem_cons_of_mem _ hk2, e⟩, hg1, if_neg fun h => hq ⟨h.1, kk, List.mem_cons_self .., h.2.symm⟩]
theorem Ok.refresh (h : Ok N σ ρ) {v : Nat} (hv : v < 4) (hnd : ((σ.caches v).map Prod.fst).Nodup) {name : ByteArray} {b : List UInt8} (hb : AL.get ρ.files name = some b) {a m : Nat} (hm1 : 1 <= m) {ps : List Place} (hp : ps.Perm (((σ.caches v).map Prod.fst).filter (inPages name (a : Int) (m : Int)))) :
    Ok N (refAll v name ps σ) (ρ.updC v name (fun c => refrTo c b a m c.length)) := by
  obtain ⟨K, rfl, hK, hm⟩ := h.pagesG hv hnd hp
  have hP : ∀ kk ∈ K, Ps σ v name kk = true := fun kk hk => ((hm kk).1 hk).1
  have hbs : AL.get σ.files name = some b := by rw [h.sim.fg]; exact hb
  obtain ⟨g1, g2, g3, g4⟩ := refAll_good hv h.good (K.map fun kk : Nat => (name, (kk : Int))) (name := name) fun p hp => by
    obtain ⟨kk, hk, rfl⟩ := List.mem_map.1 hp
    exact ⟨Ps_iff.1 (hP kk hk), rfl⟩
  obtain ⟨i1, i2⟩ := refAll_get v name b K σ hK hbs
  generalize refAll v name (K.map fun kk : Nat => (name, (kk : Int))) σ = σ' at g1 g2 g3 g4 i1 i2
  have hr0 : refrTo [] b a m ([] : List B3).length = [] := rfl
  have hF := updC_files ρ v name (fun c => refrTo c b a m c.length)
  have hrc : ∀ x y, (ρ.updC v name (fun c => refrTo c b a m c.length)).cOf x y = if x = v /\ y = name then refrTo (ρ.cOf v name) b a m (ρ.cOf v name).length else ρ.cOf x y := fun x y => cOf_updC ρ v name (f := fun c => refrTo c b a m c.length) hr0 x y
  generalize hc : ρ.cOf v name = c at hrc
  have hcg : ∀ i, (refrTo c b a m c.length).getD i B3.zero = if (c.getD i B3.zero).is = true /\ inPg i a m = true /\ (c.getD i B3.zero).di = false then { c.getD i B3.zero with b := b.getD i 0 } else c.getD i B3.zero := fun i => by
    rw [refrTo, rm_getD]
    by_cases hi : i < c.length
    · rw [if_pos hi]
      by_cases h2 : (c.getD i B3.zero).is = true /\ inPg i a m = true /\ (c.getD i B3.zero).di = false
      · rw [if_pos h2]; simp only; rw [if_pos ⟨hi, h2⟩]
      · rw [if_neg h2]; simp only; rw [if_neg fun h => h2 h.2]
    · have h0 : c.getD i B3.zero = B3.zero := by
        have : c[i]? = none := List.getElem?_eq_none (by omega)
        simp [List.getD, this]
      rw [if_neg hi, h0, if_neg fun h => by cases h.1]
  have hsim : ∀ i, VE (Vw σ v name i) (c.getD i B3.zero) := fun i => by rw [← hc]; exact h.sim.v v hv name b hb i
  have his : ∀ i, ((refrTo c b a m c.length).getD i B3.zero).is = (c.getD i B3.zero).is /\ ((refrTo c b a m c.length).getD i B3.zero).di = (c.getD i B3.zero).di := fun i => by
    rw [hcg]; split <;> exact ⟨rfl, rfl⟩
  have hpr : ∀ i, (c.getD i B3.zero).is = true -> Ps σ v name (i / 32) = true := fun i hi => by
    cases hg : AL.get (σ.caches v) (name, ((i / 32 : Nat) : Int)) with
    | some pg => simp only [Ps, hg]; rfl
    | none =>
      have h1 := (hsim i).1
      rw [Vw_none hg, hi] at h1; cases h1
  refine ⟨?_, g1, ⟨by rw [hF.1]; exact h.rgood.fsz, fun w hw x f hx => ?_⟩, fun w hw => ?_, by rw [hF.2]; exact h.locks, by rw [hF.2]; exact h.held, by rw [hF.1]; exact h.files⟩
  · refine h.sim.upd hv hb (fun x => by rw [g3, hF.1]; exact h.sim.fg x) (by rw [g3, hF.1]; exact h.sim.fn) (by rw [g4, hF.2]; exact h.sim.lk) (by rw [g3]; exact h.sim.nd) (fun x => by rw [hF.1]) (fun w x hw hne kk => ?_) (fun w x _ hne => by rw [hrc, if_neg hne]) (fun i => ?_) (fun kk => ?_) (fun i => ?_)
    · exact i2 w _ fun ⟨e1, k2, _, e2⟩ => hne ⟨e1, by simp only [Prod.mk.injEq] at e2; exact e2.1⟩
    · rw [hrc, if_pos ⟨rfl, rfl⟩]
      obtain ⟨s1, s2, s3⟩ := hsim i
      by_cases hk : i / 32 ∈ K
      · have hin : inPg i a m = true := decide_eq_true ((inPages_nat name a m (i / 32) hm1).1 ((hm _).1 hk).2)
        obtain ⟨pg, hpg⟩ : ∃ pg, pg = pageOf σ v (name, ((i / 32 : Nat) : Int)) := ⟨_, rfl⟩
        have hV : Vw σ' v name i = vw (refreshP b (i / 32) 32 pg) (i % 32) := by
          simp only [Vw]
          rw [show pageOf σ' v (name, ((i / 32 : Nat) : Int)) = refreshP b (i / 32) 32 (pageOf σ v (name, ((i / 32 : Nat) : Int))) by rw [pageOf, i1 _ hk]; rfl, hpg]
        have hV0 : Vw σ v name i = vw pg (i % 32) := by rw [Vw, hpg]
        rw [hV0] at s1 s2 s3
        rw [hV]
        refine ⟨by rw [(his i).1]; exact s1, by rw [(his i).2]; exact s2, ?_⟩
        have hlt : i % 32 < 32 := by omega
        rw [hcg]
        cases hci : (c.getD i B3.zero).is with
        | false =>
          have hkn : pg.kn (i % 32) = false := by rw [hci] at s1; exact s1
          rw [if_neg (fun h => by cases h.1), ← s3]
          simp [vw, refreshP, hkn]
        | true =>
          have hkn : pg.kn (i % 32) = true := by rw [hci] at s1; exact s1
          cases hd : (c.getD i B3.zero).di with
          | true =>
            rw [if_neg fun h => by cases h.2.2]
            have hdi : pg.di (i % 32) = true := by rw [hd] at s2; exact s2
            rw [← s3]
            simp [vw, refreshP, hdi]
          | false =>
            rw [if_pos ⟨rfl, hin, rfl⟩]
            have hdi : pg.di (i % 32) = false := by rw [hd] at s2; exact s2
            simp only [vw, refreshP]
            rw [if_pos ⟨hlt, hkn, hdi⟩, show i / 32 * 32 + i % 32 = i by omega]
      · have hV : Vw σ' v name i = Vw σ v name i := by
          simp only [Vw, pageOf]
          rw [i2 v _ fun ⟨_, k2, hk2, e2⟩ => hk (by
            simp only [Prod.mk.injEq, true_and] at e2
            rw [show i / 32 = k2 by omega]; exact hk2)]
        rw [hV, hcg, if_neg]
        · exact ⟨s1, s2, s3⟩
        · rintro ⟨h1, h2, _⟩
          exact hk ((hm _).2 ⟨hpr i h1, (inPages_nat name a m (i / 32) hm1).2 (of_decide_eq_true h2)⟩)
    · rw [hrc, if_pos ⟨rfl, rfl⟩, (his _).1]
      have h1 : Ps σ' v name kk = Ps σ v name kk := by
        by_cases hk : kk ∈ K
        · rw [hP kk hk, Ps, i1 kk hk]; rfl
        · rw [Ps, Ps, i2 v _ fun ⟨_, k2, hk2, e2⟩ => hk (by
            simp only [Prod.mk.injEq, true_and] at e2
            rw [show kk = k2 by omega]; exact hk2)]
      rw [h1, ← hc]; exact h.sim.p v hv name b hb kk
    · rw [hrc, if_pos ⟨rfl, rfl⟩, (his i).1, (his i).2, ← hc]; exact h.sim.dk v hv name b hb i
  · rw [hF.1] at hx
    rw [hrc]
    split
    · rename_i e
      rw [e.2, hb] at hx; cases hx
      rw [refrTo, rm_len, ← hc]; exact h.rgood.cin v hv name b hb
    · exact h.rgood.cin w hw x f hx
  · have h1 := congrArg List.length (g2 w)
    rw [List.length_map, List.length_map] at h1
    rw [h1]; exact h.sizes w hw
theorem Ok.lockC (h : Ok N σ ρ) (u : Int) (name : ByteArray) (at_ n : Int) : lockC u name at_ n σ = rLockC u name at_ n ρ := by
  unfold YtnigfiljenfgjaaGreat.lockC rLockC
  rw [h.sim.both, h.sim.lk]
theorem Ok.locked (h : Ok N σ ρ) {u : Int} {name : ByteArray} {at_ n : Int} (h0 : rLockC u name at_ n ρ = 0) : (∃ (v a m : Nat) (b : List UInt8), u = (v : Int) /\ v < 4 /\ AL.get ρ.files name = some b /\ at_ = (a : Int) /\ n = (m : Int) /\ 1 <= m) /\ Ok (N + 1) (locked u name at_ n σ) { ρ with held := ρ.held ++ [⟨u, name, at_, n⟩] } := by
  unfold rLockC at h0
  by_cases h1 : rBoth u name ρ = 0
  · rw [if_pos h1] at h0
    obtain ⟨⟨v, hv, hv4⟩, b, hb⟩ := rBoth_zero h1
    have hr : 0 <= at_ /\ 1 <= n /\ at_ <= 131072 /\ n <= 131072 - at_ := by
      by_cases c1 : at_ < 0
      · rw [if_pos c1] at h0; cases h0
      · rw [if_neg c1] at h0
        by_cases c2 : n < 1
        · rw [if_pos c2] at h0; cases h0
        · rw [if_neg c2] at h0
          by_cases c3 : at_ > 131072
          · rw [if_pos c3] at h0; cases h0
          · rw [if_neg c3] at h0
            by_cases c4 : n > 131072 - at_
            · rw [if_pos c4] at h0; cases h0
            · omega
    refine ⟨⟨v, at_.toNat, n.toNat, b, hv, hv4, hb, by omega, by omega, by omega⟩, ⟨⟨h.sim.fg, h.sim.fn, by show σ.locks ++ _ = ρ.held ++ _; rw [h.sim.lk], h.sim.v, h.sim.p, h.sim.dk, h.sim.nc, h.sim.nd⟩, ⟨h.good.small, h.good.near, h.good.cnt, h.good.file⟩, ⟨h.rgood.fsz, h.rgood.cin⟩, fun w hw => Nat.le_trans (h.sizes w hw) (by omega), fun l hl => ?_, by show (ρ.held ++ _).length <= N + 1; have := h.held; simp; omega, h.files⟩⟩
    rcases List.mem_append.1 hl with hl | hl
    · exact h.locks l hl
    · rw [List.mem_singleton.1 hl]
      exact ⟨⟨hr.1, by show at_ <= 131072; omega, by show 0 <= n; omega, by show n <= 131072; omega⟩, hr.2.1⟩
  · rw [if_neg h1] at h0; exact absurd h0 h1
theorem filter_key {ν : Type} (f : Place -> Bool) : ∀ (l : List (Place × ν)) (k : Place), AL.get (l.filter fun q => f q.1) k = if f k then AL.get l k else none
  | [], k => by simp [AL.get]
  | (a, b) :: l, k => by
    cases hf : f a with
    | true =>
      rw [List.filter_cons_of_pos (by simpa using hf)]
      simp only [AL.get]
      by_cases e : a = k
      · rw [if_pos e, if_pos e, ← e, hf]; rfl
      · rw [if_neg e, if_neg e]; exact filter_key f l k
    | false =>
      rw [List.filter_cons_of_neg (by simpa using hf)]
      simp only [AL.get]
      by_cases e : a = k
      · rw [if_pos e, filter_key f l k, ← e, hf]; rfl
      · rw [if_neg e]; exact filter_key f l k
theorem Ok.drop (h : Ok N σ ρ) (hrn : (ρ.files.map Prod.fst).Nodup) (hcn : ∀ u, u < 4 -> ((ρ.caches u).map Prod.fst).Nodup) (name : ByteArray) : dropC name σ = rDropC name ρ /\ Ok N (dropS name σ) (rDropS name ρ) := by
  have hC : dropC name σ = rDropC name ρ := by
    unfold dropC rDropC rHeld
    rw [h.sim.ask, h.sim.lk]
    by_cases h0 : rAsk name ρ = 0
    · rw [if_pos h0, if_neg (show ¬ rAsk name ρ ≠ 0 from fun h => h h0)]
    · rw [if_neg h0, if_pos h0]
  refine ⟨hC, ?_⟩
  unfold dropS rDropS
  rw [hC]
  by_cases h0 : rDropC name ρ = 0
  · rw [if_pos h0, if_pos h0]
    have ha : rAsk name ρ = 0 := by
      unfold rDropC at h0
      by_cases h1 : rAsk name ρ = 0
      · exact h1
      · rw [if_pos h1] at h0; exact absurd h0 h1
    obtain ⟨b, hb⟩ := rAsk_zero ha
    have hbs : AL.get σ.files name = some b := by rw [h.sim.fg]; exact hb
    have hfg : ∀ x, AL.get (rDel name 4 ρ).files x = if name = x then none else AL.get ρ.files x := fun x => by
      show AL.get (AL.del ρ.files name) x = _
      rw [AL.get_del hrn]
    have hσg : ∀ u, u < 4 -> ∀ x (kk : Int), x ≠ name -> AL.get ((dropK name 4 σ).caches u) (x, kk) = AL.get (σ.caches u) (x, kk) := fun u hu x kk hx => by
      simp only [dropK, if_pos hu]
      have := filter_key (fun p : Place => !decide (p.1 = name)) (σ.caches u) (x, kk)
      simp only [hx, decide_false, Bool.not_false, if_true] at this
      exact this
    have hrc : ∀ u, u < 4 -> ∀ x, (rDel name 4 ρ).cOf u x = if name = x then [] else ρ.cOf u x := fun u hu x => by
      simp only [RSys.cOf, rDel, if_pos hu, AL.get_del (hcn u hu)]
      by_cases e : name = x
      · rw [if_pos e, if_pos e]; rfl
      · rw [if_neg e, if_neg e]
    have hsub : ∀ u q, q ∈ (dropK name 4 σ).caches u -> q ∈ σ.caches u := fun u q hq => by
      simp only [dropK] at hq
      split at hq
      · exact List.filter_sublist.subset hq
      · exact hq
    have hlen : ∀ u, ((dropK name 4 σ).caches u).length <= (σ.caches u).length := fun u => by
      simp only [dropK]
      split
      · exact List.length_filter_le _ _
      · exact Nat.le_refl _
    have hne : ∀ {x b'}, AL.get (rDel name 4 ρ).files x = some b' -> x ≠ name /\ AL.get ρ.files x = some b' := fun {x b'} hx => by
      rw [hfg] at hx
      by_cases e : name = x
      · rw [if_pos e] at hx; cases hx
      · rw [if_neg e] at hx; exact ⟨Ne.symm e, hx⟩
    refine ⟨⟨fun x => ?_, ?_, h.sim.lk, fun u hu x b' hb' i => ?_, fun u hu x b' hb' kk => ?_, fun u hu x b' hb' i => ?_, fun u hu x hx => ?_, AL.nodup_del h.sim.nd _⟩, ⟨fun x f hx => ?_, fun u hu q hq => h.good.near u hu q (hsub u q hq), fun u hu => Nat.le_trans (hlen u) (h.good.cnt u hu), fun u hu q hq => ?_⟩, ⟨fun x b' hb' => ?_, fun u hu x b' hb' => ?_⟩, fun u hu => Nat.le_trans (hlen u) (h.sizes u hu), h.locks, h.held, ?_⟩
    · rw [hfg]
      show AL.get (AL.del σ.files name) x = _
      rw [AL.get_del h.sim.nd, h.sim.fg]
    · show (AL.del σ.files name).length = (AL.del ρ.files name).length
      have h1 := AL.length_del (AL.get_mem hbs) h.sim.nd
      have h2 := AL.length_del (AL.get_mem hb) hrn
      have h3 := h.sim.fn
      simp only at h1 h2
      omega
    · obtain ⟨e, hx⟩ := hne hb'
      rw [hrc u hu, if_neg (Ne.symm e)]
      have : Vw (dropK name 4 σ) u x i = Vw σ u x i := by simp only [Vw, pageOf, hσg u hu x _ e]
      rw [this]; exact h.sim.v u hu x b' hx i
    · obtain ⟨e, hx⟩ := hne hb'
      rw [hrc u hu, if_neg (Ne.symm e)]
      have : Ps (dropK name 4 σ) u x kk = Ps σ u x kk := by simp only [Ps, hσg u hu x _ e]
      rw [this]; exact h.sim.p u hu x b' hx kk
    · obtain ⟨e, hx⟩ := hne hb'
      rw [hrc u hu, if_neg (Ne.symm e)]; exact h.sim.dk u hu x b' hx i
    · rw [hrc u hu]
      by_cases e : name = x
      · rw [if_pos e]
      · rw [if_neg e]
        rw [hfg, if_neg e] at hx
        exact h.sim.nc u hu x hx
    · have hx : AL.get (AL.del σ.files name) x = some f := hx
      rw [AL.get_del h.sim.nd] at hx
      split at hx
      · cases hx
      · exact h.good.small x f hx
    · obtain ⟨f, hf, hi⟩ := h.good.file u hu q (hsub u q hq)
      refine ⟨f, ?_, hi⟩
      show AL.get (AL.del σ.files name) q.1.1 = _
      rw [AL.get_del h.sim.nd, if_neg, hf]
      intro e
      simp only [dropK, if_pos hu] at hq
      have := (List.mem_filter.1 hq).2
      rw [notOf, e] at this
      simp at this
    · exact h.rgood.fsz x b' (hne hb').2
    · obtain ⟨e, hx⟩ := hne hb'
      rw [hrc u hu, if_neg (Ne.symm e)]; exact h.rgood.cin u hu x b' hx
    · show (AL.del ρ.files name).length <= 8
      have h2 := AL.length_del (AL.get_mem hb) hrn
      have := h.files
      simp only at h2
      omega
  · rw [if_neg h0, if_neg h0]; exact h
end Go.Proofs.YtnigfiljenfgjaaGreat
