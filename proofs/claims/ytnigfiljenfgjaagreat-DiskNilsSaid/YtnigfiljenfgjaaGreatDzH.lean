/- The disk: writing and reading bytes. -/
import Derived.Test.YtnigfiljenfgjaaGreatDzG
set_option maxRecDepth 100000
set_option linter.unusedVariables false
set_option linter.unusedSimpArgs false
namespace Go.Proofs.YtnigfiljenfgjaaGreat
open Go.Sh Go.RowKit

theorem rdsl_fr {w w' : World} {B : Nat → Prop} {s : SV} {l : List UInt8} (h : RdSl w s l) (hf : Fr B w w') (hn : ∀ b ∈ blkOf s, ¬ B b) : RdSl w' s l where
  len := h.len
  cap := h.cap
  lim := h.lim
  get := fun i x hx => by
    obtain ⟨a, ha, vs, h1, h2⟩ := h.get i x hx
    refine ⟨a, ha, vs, h1, fun j v hv => ?_⟩
    have hc := h2 j v hv
    have hb : ((a.add (i * Enc.sz UInt8)).add j).block = a.block := by
      have : ∀ (a : Addr) n, (a.add n).block = a.block := fun a n => by unfold Addr.add; split <;> rfl
      rw [this, this]
    rw [World.cell?_of_block (hf.block _ (World.block_lt_of_cell? w _ hc) (by rw [hb]; exact hn _ (by simp [blkOf, ha])))]
    exact hc

/-! ### The closure of Write -/
def wstep (bs : List UInt8) (t : Unit) (pg : Page) (i k : Nat) : Unit × Page := ((), { b := upN pg.b i (bs.getD k 0), kn := upN pg.kn i true, di := upN pg.di i true })
theorem does_write {r : Nat} {l : SV} {bs : List UInt8} : Does 68 #[] #[.pointer (some ⟨r, 0, none⟩)] bs.length (fun w (_ : Unit) => w.heap[r]? = some (.cells #[.slice l.a l.len l.cap] 36) ∧ RdSl w l bs) (fun _ => False) (fun b => b = r ∨ b ∈ blkOf l) (wstep bs) where
  body := by kernel_rfl
  sub := fun _ h => h.elim
  stays := fun {B w w' t} hD hf hn => ⟨hf.blk hD.1 (hn _ (.inl rfl) (blk_lt hD.1)), by
    by_cases hb : ∀ b ∈ blkOf l, b < w.heap.size
    · exact rdsl_fr hD.2 hf fun b hb' => hn b (.inr hb') (hb b hb')
    · -- no cell of it is there: then there is no element
      have hnil : bs = [] := by
        cases hbs : bs with
        | nil => rfl
        | cons x xs =>
          exfalso
          refine hb fun b hb' => ?_
          obtain ⟨a, ha, _, hc⟩ := hD.2.u8 (i := 0) (x := x) (by rw [hbs]; rfl)
          have : b = a.block := by simpa [blkOf, ha] using hb'
          have ha' : (a.add (0 * 1)).block = a.block := by unfold Addr.add; split <;> rfl
          rw [this, ← ha']; exact World.block_lt_of_cell? w _ hc
      have := hD.2
      subst hnil
      exact ⟨this.len, this.cap, this.lim, fun i x hx => by simp at hx⟩⟩
  call := by
    rintro w t pg q i k ⟨hr, hl⟩ hq hnY hi hk
    refine F68_calls _ _ _ _ w _ ?_
    refine dwE_intro fun w1 hp1 hh1 => ?_
    obtain ⟨x, hx⟩ : ∃ x, bs[k]? = some x := ⟨_, List.getElem?_eq_getElem hk⟩
    have hl1 := hl.pu hp1
    obtain ⟨a, ha, hkl, hc⟩ := hl1.u8 hx
    have hr1 := hp1.blk hr
    have hq1 := hp1.blk hq
    refine ⟨l, by rw [cell_blk hr1]; rfl, a, ha, by omega, by omega, _, by simpa using hc, by omega, by omega, ?_⟩
    rw [ptrE_some, ptrE_some, add_def]
    refine st1_intro hq1 (by rw [Page.size_cells]; omega) fun w2 hw2 hb2 => ?_
    refine ⟨by omega, by omega, ?_⟩
    rw [add_def, add_def]
    refine st1_intro hb2 (by simp [Page.size_cells]; omega) fun w3 hw3 hb3 => ?_
    refine ⟨by omega, by omega, ?_⟩
    rw [add_def, add_def]
    refine st1_intro hb3 (by simp [Page.size_cells]; omega) fun w4 hw4 hb4 => ?_
    have hf2 : Fr (· = q) w1 w2 := by rw [hw2]; exact Fr.cell w1 _ _ _
    have hf3 : Fr (· = q) w2 w3 := by rw [hw3]; exact Fr.cell w2 _ _ _
    have hf4 : Fr (· = q) w3 w4 := by rw [hw4]; exact Fr.cell w3 _ _ _
    have hF : Fr (· = q) w1 w4 := (hf2.trans hf3 fun i hi _ => hi).trans hf4 fun i hi _ => hi
    have hqr : ¬ r = q := fun e => hnY (.inl e.symm)
    have hql : ∀ b ∈ blkOf l, ¬ b = q := fun b hb e => hnY (.inr (by rw [← e]; exact hb))
    refine ⟨rfl, ⟨hF.blk hr1 hqr, rdsl_fr hl1 hF hql⟩, ?_, ((Fr.pu hp1 : Fr (· = q) w w1).trans hF fun i hi _ => hi).mono fun i hi _ => .inl hi⟩
    rw [hb4]
    have e1 : 0 + (i : Int).toNat * 1 = i := by omega
    have e2 : 0 + 32 + (i : Int).toNat * 1 = 32 + i := by omega
    have e3 : 0 + 64 + (i : Int).toNat * 1 = 64 + i := by omega
    rw [e1, e2, e3, show Value.int .u8 ((x.toNat : Nat) : Int) = u8V x from rfl, Page.set_b _ hi, Page.set_kn _ hi, Page.set_di _ hi]
    have : bs.getD k 0 = x := by simp [List.getD, hx]
    simp only [wstep, this]

/-! ### The closure of Read -/
def rstep (out : List UInt8) (pg : Page) (i k : Nat) : List UInt8 × Page := (out.set k (pg.b i), pg)
theorem does_read {r : Nat} {l : SV} {n : Nat} : Does 45 #[] #[.pointer (some ⟨r, 0, none⟩)] n (fun w (out : List UInt8) => w.heap[r]? = some (.cells #[.slice l.a l.len l.cap] 36) ∧ RowAt w 5 1 l (out.map u8V) ∧ out.length = n ∧ r ∉ blkOf l) (fun b => b ∈ blkOf l) (fun b => b = r ∨ b ∈ blkOf l) rstep where
  body := by kernel_rfl
  sub := fun _ h => .inr h
  stays := fun {B w w' t} hD hf hn => ⟨hf.blk hD.1 (hn _ (.inl rfl) (blk_lt hD.1)), hD.2.1.fr hf fun b hb => hn b (.inr hb) (hD.2.1.lt b hb), hD.2.2⟩
  call := by
    rintro w out pg q i k ⟨hr, hl, hlen, hrl⟩ hq hnY hi hk
    refine F45_calls _ _ _ _ w _ ?_
    refine dwE_intro fun w1 hp1 hh1 => ?_
    have hl1 := hl.pu hp1
    have hr1 := hp1.blk hr
    have hq1 := hp1.blk hq
    have hll : l.len = out.length := u8V_map_len out hl1
    refine ⟨l, by rw [cell_blk hr1]; rfl, by omega, by omega, _, by rw [add_def, cell_blk hq1, show 0 + (i : Int).toNat * 1 = i by omega]; exact Page.get_b pg hi, ?_⟩
    obtain ⟨a, ha, hst⟩ := hl1.st1 (j := k) (by simp; omega) (u8V (pg.b i)) (K := fun w' => Ending.returned (Value.tuple #[]) = Ending.returned (Value.tuple #[]) ∧ (w'.heap[r]? = some (.cells #[.slice l.a l.len l.cap] 36) ∧ RowAt w' 5 1 l ((rstep out pg i k).1.map u8V) ∧ (rstep out pg i k).1.length = n ∧ r ∉ blkOf l) ∧
      w'.heap[q]? = some (.cells (rstep out pg i k).2.cells 89) ∧ Fr (fun b => b = q ∨ b ∈ blkOf l) w w') fun w2 h2 hf2 hs2 => by
        refine ⟨rfl, ⟨hf2.blk hr1 hrl, ?_, by simp [rstep, hlen], hrl⟩, hf2.blk hq1 fun hb => hnY (.inr hb), ((Fr.pu hp1 : Fr (fun b => b = q ∨ b ∈ blkOf l) w w1).trans hf2 fun i hi _ => .inr hi)⟩
        simp only [rstep, List.map_set]; exact h2
    refine ⟨a, ha, by omega, by omega, ?_⟩
    rw [show ((k : Int).toNat * 1) = k by omega]
    exact hst

/-! ### Write -/
theorem enterC_zero {u : Int} {name : ByteArray} {σ : Sys} (h : enterC u name σ = 0) : 0 ≤ u ∧ u < 4 ∧ ∃ f, AL.get σ.files name = some f := by
  unfold enterC at h
  split at h
  · simp at h
  · rename_i hc
    split at h
    · simp at h
    · rename_i hf
      refine ⟨by omega, by omega, ?_⟩
      cases hg : AL.get σ.files name with
      | none => simp [hg] at hf
      | some f => exact ⟨f, rfl⟩
def fileOf (σ : Sys) (name : ByteArray) : List UInt8 := (AL.get σ.files name).getD []
def Small (σ : Sys) : Prop := ∀ name f, AL.get σ.files name = some f → f.length ≤ 1000000
def writeC (u : Int) (name : ByteArray) (at_ : Int) (bs : List UInt8) (σ : Sys) : Int :=
  if enterC u name σ = 0 then (if at_ < 0 then 1 else if at_ > (fileOf σ name).length then 1 else if (bs.length : Int) > (fileOf σ name).length - at_ then 1 else 0) else enterC u name σ
def writeS (u : Int) (name : ByteArray) (at_ : Int) (bs : List UInt8) (σ : Sys) : Sys :=
  if writeC u name at_ bs σ = 0 then (eachS (wstep bs) u.toNat name at_.toNat bs.length (fileOf σ name) bs.length σ () 0).1 else σ
theorem leave_left {w w2 : World} {d : Lay} {σ' : Sys} {K : World → Prop} (h : SysAt w2 d 1 σ') (hf : Fr (· ∈ d.own) w w2) (hK : ∀ w', Left w w' d d σ' → Fr (· = d.S) w2 w' → K w') : runD Tryz.prog [leaveD d] w2 K :=
  leave_c h fun w' h' hf' _ => hK w' ⟨h', hf.trans hf' fun i hi _ => by rw [show i = d.S from hi]; exact mem_S d, fun b hb => .inl hb, rfl⟩ hf'

theorem write_c {w : World} {d : Lay} {σ : Sys} (h : SysAt w d 0 σ) (hsm : Small σ) (u : Int) (name : ByteArray) (at_ : Int) {l : SV} {bs : List UInt8} (hl : RdSl w l bs) (hlo : ∀ b ∈ blkOf l, b < w.heap.size ∧ b ∉ d.own) :
    Calls Tryz.prog 25 #[d.ptr, .int .i64 u, .string name, .int .i64 at_, .slice l.a l.len l.cap] w fun e w' => e = .returned (.int .i64 (writeC u name at_ bs σ)) ∧ Left w w' d d (writeS u name at_ bs σ) := by
  refine F25_calls _ _ _ _ l w _ ?_
  refine alE_intro fun w1 hw1 => ?_
  have hp1 : Pu w w1 := by rw [hw1]; exact Pu.alloc w _
  have hb1 : w1.heap[w.heap.size]? = some (.cells #[.slice l.a l.len l.cap] 36) := by rw [hw1]; exact alloc_new w _
  have h1 := h.pu hp1
  refine Calls.mono (enter_c h1 u name) ?_
  rintro e w2 ⟨rfl, h2, hf2⟩
  have hf2' : Fr (· ∈ d.own) w w2 := ((Fr.pu hp1 : Fr (· ∈ d.own) w w1).trans hf2 fun i hi _ => by rw [show i = d.S from hi]; exact mem_S d)
  have hll : l.len = bs.length := hl.len
  have bad : ∀ n : Int, ∀ w3, writeC u name at_ bs σ = n → n ≠ 0 → SysAt w3 d 1 σ → Fr (· ∈ d.own) w w3 → runD Tryz.prog [leaveD d] w3 fun w' => Ending.returned (Value.int .i64 n) = Ending.returned (Value.int .i64 (writeC u name at_ bs σ)) ∧ Left w w' d d (writeS u name at_ bs σ) := fun n w3 hn h0 h3 hf3 =>
    leave_left h3 hf3 fun w' hL _ => ⟨by rw [hn], by simp only [writeS, hn, h0, if_false]; exact hL⟩
  refine ⟨_, _, rfl, Br.of (fun he => ?_) (fun he => ?_)⟩
  · have he : enterC u name σ ≠ 0 := by simpa using he
    exact bad _ w2 (by simp [writeC, he]) he h2 hf2'
  · have he : enterC u name σ = 0 := by simpa using he
    obtain ⟨hu0, hu4, f, hf⟩ := enterC_zero he
    have hfo : fileOf σ name = f := by simp [fileOf, hf]
    have hfl := hsm name f hf
    refine dwE_intro fun w3 hp3 hh3 => ?_
    have h3 := h2.pu hp3
    have hf3 : Fr (· ∈ d.own) w w3 := hf2'.trans (Fr.pu hp3 : Fr (· ∈ d.own) w2 w3) fun i hi _ => hi
    have hC : ∀ n : Int, (if at_ < 0 then 1 else if at_ > f.length then 1 else if (bs.length : Int) > f.length - at_ then 1 else 0) = n → writeC u name at_ bs σ = n := fun n hn => by simp only [writeC, he, if_true, hfo]; exact hn
    refine Br.of (fun c1 => ?_) (fun c1 => ?_)
    · have c1 := dtrue c1
      exact bad 1 w3 (hC 1 (by simp [c1])) (by decide) h3 hf3
    have c1 := dfalse c1
    obtain ⟨s, hl3, hr3, _, hmem, hsl⟩ := look_file h3 hf
    refine ⟨some d.M, h3.cellM, s, hl3, ?_⟩
    rw [hsl]
    refine Br.of (fun c2 => ?_) (fun c2 => ?_)
    · have c2 := dtrue c2
      exact bad 1 w3 (hC 1 (by simp [c1, c2])) (by decide) h3 hf3
    have c2 := dfalse c2
    have hb3 : w3.heap[w.heap.size]? = some (.cells #[.slice l.a l.len l.cap] 36) := hp3.blk (hf2.blk hb1 fun e => by have := h.lt d.S (mem_S d); omega)
    refine ⟨l, by rw [cell_blk hb3]; rfl, some d.M, h3.cellM, s, hl3, ?_⟩
    rw [hsl, wrap_in (n := (f.length : Int) - at_) (by omega) (by omega), hll]
    refine Br.of (fun c3 => ?_) (fun c3 => ?_)
    · have c3 := dtrue c3
      exact bad 1 w3 (hC 1 (by simp only [c1, c2, c3, if_false, if_true])) (by decide) h3 hf3
    have c3 := dfalse c3
    refine ⟨l, by rw [cell_blk hb3]; rfl, ?_⟩
    rw [hll]
    obtain ⟨un, rfl⟩ := Int.eq_ofNat_of_zero_le hu0
    obtain ⟨an, rfl⟩ := Int.eq_ofNat_of_zero_le (by omega : 0 ≤ at_)
    have hw : w.heap.size ≤ w3.heap.size := hf3.size
    have hRl : RdSl w3 l bs := rdsl_fr hl hf3 fun b hb => (hlo b hb).2
    refine Calls.mono (each_c (u := un) (at_ := an) does_write h3 (by omega) hf hfl (by omega) (t := ()) ⟨hb3, hRl⟩ ?_ ?_) ?_
    · rintro b (rfl | hb)
      · exact blk_lt hb3
      · exact Nat.lt_of_lt_of_le (hlo b hb).1 hw
    · rintro b hb (rfl | hb')
      · have := h.lt _ hb; omega
      · exact (hlo b hb').2 hb
    · rintro e w4 ⟨rfl, h4, _, hf4⟩
      refine ⟨rfl, leave_left h4 (hf3.trans hf4 fun i hi _ => hi.elim id False.elim) fun w' hL _ => ⟨by rw [hC 0 (by simp only [c1, c2, c3, if_false])], ?_⟩⟩
      have : writeC (un : Int) name (an : Int) bs σ = 0 := hC 0 (by simp only [c1, c2, c3, if_false])
      simp only [writeS, this, if_true, hfo, Int.toNat_natCast]
      exact hL
end Go.Proofs.YtnigfiljenfgjaaGreat
