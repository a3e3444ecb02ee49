/- The disk: taking a lock. -/
import Derived.Test.YtnigfiljenfgjaaGreatDzM
set_option maxRecDepth 100000
set_option linter.unusedVariables false
set_option linter.unusedSimpArgs false
set_option linter.unusedSectionVars false
namespace Go.Proofs.YtnigfiljenfgjaaGreat
open Go.Sh Go.RowKit

def LocksOk (σ : Sys) : Prop := (∀ l ∈ σ.locks, l.ok) ∧ σ.locks.length ≤ 1000000
def lockC (u : Int) (name : ByteArray) (at_ n : Int) (σ : Sys) : Int :=
  if enterC u name σ = 0 then (if at_ < 0 then 1 else if n < 1 then 1 else if at_ > 131072 then 1 else if n > 131072 - at_ then 1 else
    if σ.locks.any (fun l => decide (l.u = u) && meetsB name at_ n l) then 5 else if σ.locks.any (meetsB name at_ n) then 12 else 0) else enterC u name σ
/-- The lock is taken, before the pages are seen to. -/
def locked (u : Int) (name : ByteArray) (at_ n : Int) (σ : Sys) : Sys := { σ with locks := σ.locks ++ [⟨u, name, at_, n⟩] }

theorem lock_c {w : World} {d : Lay} {σ : Sys} (h : SysAt w d 0 σ) (hG : Good σ) (hL : LocksOk σ) (u : Int) (name : ByteArray) (at_ n : Int) :
    Calls Tryz.prog 27 #[d.ptr, .int .i64 u, .string name, .int .i64 at_, .int .i64 n] w fun e w' => e = .returned (.int .i64 (lockC u name at_ n σ)) ∧
      ((lockC u name at_ n σ ≠ 0 ∧ Left w w' d d σ) ∨ (lockC u name at_ n σ = 0 ∧ ∃ d' ps, ps.Perm (((σ.caches u.toNat).map Prod.fst).filter (inPages name at_ n)) ∧ Left w w' d d' (refAll u.toNat name ps (locked u name at_ n σ)))) := by
  refine F27_calls _ _ _ _ _ w _ ?_
  refine alE_intro fun w1 hw1 => alE_intro fun w2 hw2 => alE_intro fun w3 hw3 => alE_intro fun w4 hw4 => ?_
  have hp1 : Pu w w1 := by rw [hw1]; exact Pu.alloc w _
  have hp2 : Pu w1 w2 := by rw [hw2]; exact Pu.alloc w1 _
  have hp3 : Pu w2 w3 := by rw [hw3]; exact Pu.alloc w2 _
  have hp4 : Pu w3 w4 := by rw [hw4]; exact Pu.alloc w3 _
  have hs1 : w1.heap.size = w.heap.size + 1 := by rw [hw1]; simp
  have hs2 : w2.heap.size = w.heap.size + 2 := by rw [hw2]; simp [hs1]
  have hs3 : w3.heap.size = w.heap.size + 3 := by rw [hw3]; simp [hs2]
  have hs4 : w4.heap.size = w.heap.size + 4 := by rw [hw4]; simp [hs3]
  have hP4 : Pu w w4 := ((hp1.trans hp2).trans hp3).trans hp4
  have hlt : ∀ b ∈ d.own, b < w.heap.size := h.lt
  -- the four variables
  let Box : World → Prop := fun v => v.heap[w.heap.size]? = some (.cells #[.int .i64 u] 3) ∧ v.heap[w1.heap.size]? = some (.cells #[.string name] 9) ∧ v.heap[w2.heap.size]? = some (.cells #[.int .i64 at_] 3) ∧ v.heap[w3.heap.size]? = some (.cells #[.int .i64 n] 3)
  have hB4 : Box w4 := ⟨hp4.blk (hp3.blk (hp2.blk (by rw [hw1]; exact alloc_new w _))), hp4.blk (hp3.blk (by rw [hw2]; exact alloc_new w1 _)), hp4.blk (by rw [hw3]; exact alloc_new w2 _), by rw [hw4]; exact alloc_new w3 _⟩
  have hBfr : ∀ {B : Nat → Prop} {a b : World}, Box a → Fr B a b → (∀ k, B k → k < w.heap.size ∨ w.heap.size + 4 ≤ k) → Box b := fun {B a b} hb hf hB =>
    ⟨hf.blk hb.1 fun hx => by have := hB _ hx; omega, hf.blk hb.2.1 fun hx => by have := hB _ hx; omega, hf.blk hb.2.2.1 fun hx => by have := hB _ hx; omega, hf.blk hb.2.2.2 fun hx => by have := hB _ hx; omega⟩
  have hBpu : ∀ {a b : World}, Box a → Pu a b → Box b := fun {a b} hb hp => hBfr hb (Fr.pu hp : Fr (fun _ => False) a b) fun _ h => h.elim
  refine ⟨u, by rw [cell_blk hB4.1]; rfl, name, by rw [cell_blk hB4.2.1]; rfl, ?_⟩
  refine Calls.mono (enter_c (h.pu hP4) u name) ?_
  rintro e w5 ⟨rfl, h5, hf5⟩
  have hF5 : Fr (· ∈ d.own) w w5 := (Fr.pu hP4 : Fr (· ∈ d.own) w w4).trans hf5 fun i hi _ => by rw [show i = d.S from hi]; exact mem_S d
  have hB5 : Box w5 := hBfr hB4 hf5 fun k hk => .inl (by rw [show k = d.S from hk]; exact hlt _ (mem_S d))
  have bad : ∀ m : Int, ∀ w6, lockC u name at_ n σ = m → m ≠ 0 → SysAt w6 d 1 σ → Fr (· ∈ d.own) w w6 → runD Tryz.prog [leaveD d] w6 fun w' => Ending.returned (Value.int .i64 m) = .returned (.int .i64 (lockC u name at_ n σ)) ∧
      ((lockC u name at_ n σ ≠ 0 ∧ Left w w' d d σ) ∨ (lockC u name at_ n σ = 0 ∧ ∃ d' ps, ps.Perm (((σ.caches u.toNat).map Prod.fst).filter (inPages name at_ n)) ∧ Left w w' d d' (refAll u.toNat name ps (locked u name at_ n σ)))) := fun m w6 hm h0 h6 hf6 =>
    leave_left h6 hf6 fun w' hLf _ => ⟨by rw [hm], .inl ⟨by rw [hm]; exact h0, hLf⟩⟩
  refine ⟨_, _, rfl, Br.of (fun he => ?_) (fun he => ?_)⟩
  · have he : enterC u name σ ≠ 0 := by simpa using he
    exact bad _ w5 (by simp [lockC, he]) he h5 hF5
  have he : enterC u name σ = 0 := by simpa using he
  obtain ⟨hu0, hu4, f, hf⟩ := enterC_zero he
  have hfo : fileOf σ name = f := by simp [fileOf, hf]
  have hfl := hG.small name f hf
  obtain ⟨un, rfl⟩ := Int.eq_ofNat_of_zero_le hu0
  have hun : un < 4 := by omega
  have hC : ∀ m : Int, (if at_ < 0 then 1 else if n < 1 then 1 else if at_ > 131072 then 1 else if n > 131072 - at_ then 1 else
    if σ.locks.any (fun l => decide (l.u = (un : Int)) && meetsB name at_ n l) then 5 else if σ.locks.any (meetsB name at_ n) then 12 else 0) = m → lockC (un : Int) name at_ n σ = m := fun m hm => by simp only [lockC, he, if_true]; exact hm
  refine ⟨at_, by rw [cell_blk hB5.2.2.1]; rfl, Br.of (fun c1 => bad 1 w5 (hC 1 (by rw [if_pos (dtrue c1)])) (by decide) h5 hF5) (fun c1 => ?_)⟩
  have c1 := dfalse c1
  refine ⟨n, by rw [cell_blk hB5.2.2.2]; rfl, Br.of (fun c2 => bad 1 w5 (hC 1 (by rw [if_neg c1, if_pos (dtrue c2)])) (by decide) h5 hF5) (fun c2 => ?_)⟩
  have c2 := dfalse c2
  refine ⟨at_, by rw [cell_blk hB5.2.2.1]; rfl, Br.of (fun c3 => bad 1 w5 (hC 1 (by rw [if_neg c1, if_neg c2, if_pos (dtrue c3)])) (by decide) h5 hF5) (fun c3 => ?_)⟩
  have c3 := dfalse c3
  refine ⟨n, by rw [cell_blk hB5.2.2.2]; rfl, at_, by rw [cell_blk hB5.2.2.1]; rfl, ?_⟩
  rw [wrap_in (n := (131072 : Int) - at_) (by omega) (by omega)]
  refine Br.of (fun c4 => bad 1 w5 (hC 1 (by rw [if_neg c1, if_neg c2, if_neg c3, if_pos (dtrue c4)])) (by decide) h5 hF5) (fun c4 => ?_)
  have c4 := dfalse c4
  have ha : 0 ≤ at_ ∧ at_ ≤ 131072 := by omega
  have hn : 0 ≤ n ∧ n ≤ 131072 := by omega
  refine alE_intro fun w6 hw6 => ?_
  have hp6 : Pu w5 w6 := by rw [hw6]; exact Pu.alloc w5 _
  have hb6 : w6.heap[w5.heap.size]? = some (.cells #[.nilFunc] 96) := by rw [hw6]; exact alloc_new w5 _
  have hs5 : w.heap.size + 4 ≤ w5.heap.size := by have := hf5.size; omega
  refine st1_intro hb6 (by decide) fun w7 hw7 hb7 => ?_
  have hf7 : Fr (· = w5.heap.size) w6 w7 := by rw [hw7]; exact Fr.cell w6 _ _ _
  have hP7 : Pu w5 w7 := hp6.andNew hf7 fun i hi => by omega
  have h7 := h5.pu hP7
  have hB7 := hBpu hB5 hP7
  have hF7 : Fr (· ∈ d.own) w w7 := hF5.trans (Fr.pu hP7 : Fr (· ∈ d.own) w5 w7) fun i hi _ => hi
  refine ⟨d.ls, h7.cellL, ?_⟩
  refine Calls.mono (contains_c h7.lk hL.1 hL.2 (tells_mine (u := (un : Int)) (r7 := w1.heap.size) (r8 := w2.heap.size) (r9 := w3.heap.size) ha hn) ⟨hB7.1, hb7, hB7.2.1, hB7.2.2.1, hB7.2.2.2⟩) ?_
  rintro e w8 ⟨rfl, hp8⟩
  have h8 := h7.pu hp8
  have hB8 := hBpu hB7 hp8
  have hF8 : Fr (· ∈ d.own) w w8 := hF7.trans (Fr.pu hp8 : Fr (· ∈ d.own) w7 w8) fun i hi _ => hi
  refine ⟨_, rfl, Br.of (fun c5 => bad 5 w8 (hC 5 (by rw [if_neg c1, if_neg c2, if_neg c3, if_neg c4, if_pos c5])) (by decide) h8 hF8) (fun c5 => ?_)⟩
  refine dwE_intro fun w9 hp9 hh9 => ?_
  have h9 := h8.pu hp9
  have hB9 := hBpu hB8 hp9
  have hb9 := hp9.blk (hp8.blk hb7)
  have hF9 : Fr (· ∈ d.own) w w9 := hF8.trans (Fr.pu hp9 : Fr (· ∈ d.own) w8 w9) fun i hi _ => hi
  refine ⟨d.ls, h9.cellL, .func (.func 71) #[] #[.pointer (some ⟨w1.heap.size, 0, none⟩), .pointer (some ⟨w2.heap.size, 0, none⟩), .pointer (some ⟨w3.heap.size, 0, none⟩)], by rw [cell_blk hb9]; rfl, ?_⟩
  refine Calls.mono (contains_c h9.lk hL.1 hL.2 (tells_meets (r7 := w1.heap.size) (r8 := w2.heap.size) (r9 := w3.heap.size) (name := name) ha hn) ⟨hB9.2.1, hB9.2.2.1, hB9.2.2.2⟩) ?_
  rintro e w10 ⟨rfl, hp10⟩
  have h10 := h9.pu hp10
  have hB10 := hBpu hB9 hp10
  have hF10 : Fr (· ∈ d.own) w w10 := hF9.trans (Fr.pu hp10 : Fr (· ∈ d.own) w9 w10) fun i hi _ => hi
  have c5' : ¬ σ.locks.any (fun l => decide (l.u = (un : Int)) && meetsB name at_ n l) = true := by rw [c5]; simp
  refine ⟨_, rfl, Br.of (fun c6 => bad 12 w10 (hC 12 (by rw [if_neg c1, if_neg c2, if_neg c3, if_neg c4, if_neg c5', if_pos c6])) (by decide) h10 hF10) (fun c6 => ?_)⟩
  have c6' : ¬ σ.locks.any (meetsB name at_ n) = true := by rw [c6]; simp
  have hC0 : lockC (un : Int) name at_ n σ = 0 := hC 0 (by rw [if_neg c1, if_neg c2, if_neg c3, if_neg c4, if_neg c5', if_neg c6'])
  refine dwE_intro fun w11 hp11 hh11 => ?_
  have h11 := h10.pu hp11
  have hB11 := hBpu hB10 hp11
  refine ⟨fun v => SysAt v d 1 σ ∧ Box v, ⟨h11, hB11⟩, d.ls, fun v hv => hv.1.cellL, (un : Int), fun v hv => by rw [cell_blk hv.2.1]; rfl, name, fun v hv => by rw [cell_blk hv.2.2.1]; rfl, at_, fun v hv => by rw [cell_blk hv.2.2.2.1]; rfl, n, fun v hv => by rw [cell_blk hv.2.2.2.2]; rfl, ?_⟩
  refine alE_intro fun w12 hw12 => ?_
  have hp12 : Pu w11 w12 := by rw [hw12]; exact Pu.alloc w11 _
  have hb12 : w12.heap[w11.heap.size]? = some (.cells #[.int .i64 (un : Int), .string name, .int .i64 at_, .int .i64 n] 95) := by rw [hw12]; exact alloc_new w11 _
  have h12 := h11.pu hp12
  have hB12 := hBpu hB11 hp12
  refine ⟨⟨h12, hB12⟩, ?_⟩
  have hF12 : Fr (· ∈ d.own) w w12 := (hF10.trans (Fr.pu hp11 : Fr (· ∈ d.own) w10 w11) fun i hi _ => hi).trans (Fr.pu hp12 : Fr (· ∈ d.own) w11 w12) fun i hi _ => hi
  obtain ⟨i, hi, hz, hsz, hby⟩ := info_parts info70
  have hll : d.ls.len = σ.locks.length := by have := h12.lk.1; rw [locks_len] at this; omega
  have hL2 := hL.2
  obtain ⟨s', w13, hra, hrow', hf13, hblk13, hlen13⟩ := row_append (P := Tryz.prog) (ty := 65) u50' hi hz hsz (by rfl) (by decide) h12.lk (a := ⟨w11.heap.size, 0, none⟩) (m := 1) (c := 1) (news := (⟨(un : Int), name, at_, n⟩ : Lock).cells) (by rfl) (fun j v hv => by
      rw [add_def, cell_blk hb12, Nat.zero_add]
      simpa [Lock.cells] using hv) (by simp [Lock.cells, Value.oneCell']) (by rw [hby]; omega)
  refine ⟨s', w13, hra, ?_⟩
  obtain ⟨n1, n2, n3, n4, n5⟩ := h12.ne
  have hS13 := hf13.blk h12.st fun hb => (n4 _ hb).1 rfl
  have hlsown : ∀ b ∈ blkOf d.ls, b ∈ d.own := fun b hb => by simp only [Lay.own, List.mem_cons, List.mem_append]; exact .inr (.inr (.inr (.inr (.inr (.inr (.inl hb))))))
  have hB13 : Box w13 := hBfr hB12 hf13 fun k hk => .inl (hlt k (hlsown k hk))
  rw [ptrE_some, add_def]
  refine st1_intro hS13 (by simp) fun w14 hw14 hb14 => ?_
  have hf14 : Fr (· = d.S) w13 w14 := by rw [hw14]; exact Fr.cell w13 _ _ _
  have hS'S : d.S ∉ blkOf s' := fun hb => by
    rcases hblk13 _ hb with hb | hb
    · exact (n4 _ hb).1 rfl
    · have := hlt _ (mem_S d); have := hF12.size; omega
  have h14 : SysAt w14 { d with ls := s' } 1 (locked (un : Int) name at_ n σ) := by
    refine h12.setLocks (ls' := s') (locks' := σ.locks ++ [⟨(un : Int), name, at_, n⟩]) ?_ ((hf13.mono fun i hi _ => .inl hi).trans hf14 fun i hi _ => .inr hi) (by rw [hb14]; rfl) fun b hb => (hblk13 b hb).elim .inl fun hb' => .inr fun ho => by have := hlt b ho; have := hF12.size; omega
    rw [List.flatMap_append]
    refine RowAt.fr ?_ hf14 fun b hb e => hS'S (by rw [← show b = d.S from e]; exact hb)
    simpa using hrow'
  have hB14 : Box w14 := hBfr hB13 hf14 fun k hk => .inl (by rw [show k = d.S from hk]; exact hlt _ (mem_S d))
  have hF14 : Fr (· ∈ d.own) w w14 := (hF12.trans hf13 fun i hi _ => hlsown i hi).trans hf14 fun i hi _ => by rw [show i = d.S from hi]; exact mem_S d
  generalize hd' : ({ d with ls := s' } : Lay) = d' at h14
  have hS' : d'.S = d.S := by rw [← hd']
  have hown' : ∀ b ∈ d'.own, b ∈ d.own ∨ w.heap.size + 4 ≤ b := fun b hb => by
    rw [← hd'] at hb
    simp only [Lay.own, List.mem_cons, List.mem_append] at hb ⊢
    rcases hb with hb | hb | hb | hb | hb | hb | hb | hb
    · simp [hb]
    · simp [hb]
    · simp [hb]
    · simp [hb]
    · simp [hb]
    · simp [hb]
    · rcases hblk13 b hb with hb | hb
      · simp [hb]
      · exact .inr (by have := (hF10.trans (Fr.pu hp11 : Fr (· ∈ d.own) w10 w11) fun i hi _ => hi).size; have := hp12.size; have := hf5.size; have := hP7.size; have := hp8.size; have := hp9.size; have := hp10.size; have := hp11.size; omega)
    · simp [hb]
  have hptr : d.ptr = d'.ptr := by simp [Lay.ptr, hS']
  have hlv : leaveD d = leaveD d' := by simp [leaveD, hptr]
  have hG' : Good (locked (un : Int) name at_ n σ) := ⟨hG.small, hG.near, hG.cnt, hG.file⟩
  refine ⟨(un : Int), by rw [cell_blk hB14.1]; rfl, name, by rw [cell_blk hB14.2.1]; rfl, at_, by rw [cell_blk hB14.2.2.1]; rfl, n, by rw [cell_blk hB14.2.2.2]; rfl, ?_⟩
  show Calls Tryz.prog 69 #[d.ptr, .int .i64 (un : Int), .string name, .int .i64 at_, .int .i64 n] w14 _
  rw [hptr]
  refine Calls.mono (pages_c h14 hG'.near hun name (by omega) (by omega) (hG'.cnt un hun)) ?_
  rintro e w15 ⟨l, ps, rfl, hrow, hperm, hp15, hblk⟩
  refine ⟨l, rfl, ?_⟩
  have hflen := flat_len ps
  have hl : l.len = ps.length := by have := hrow.1; omega
  rw [hl]
  have hps : ∀ p ∈ ps, p ∈ ((locked (un : Int) name at_ n σ).caches un).map Prod.fst ∧ p.1 = name := fun p hp => by
    obtain ⟨h1, h2⟩ := List.mem_filter.1 (hperm.mem_iff.1 hp)
    exact ⟨h1, (of_decide_eq_true h2).1⟩
  have hcnt : ps.length ≤ 1000000 := by
    have h1 := hperm.length_eq
    have h2 := List.length_filter_le (inPages name at_ n) (((locked (un : Int) name at_ n σ).caches un).map Prod.fst)
    have h3 := hG'.cnt un hun
    simp at h2; omega
  have hlt14 : ∀ b ∈ d'.own, b < w14.heap.size := h14.lt
  have hs14 : w.heap.size + 4 ≤ w14.heap.size := by have := hB14.2.2.2; have := blk_lt this; omega
  refine loopUp ps.length (fun k t w' => t = (k : Int) ∧ SysAt w' d' 1 (refAll un name (ps.take k) (locked (un : Int) name at_ n σ)) ∧ RowAt w' 92 2 l (ps.flatMap placeCells) ∧ Box w' ∧ Fr (· ∈ d.own) w w' ∧ w14.heap.size ≤ w'.heap.size)
    ⟨rfl, h14.pu hp15, hrow, hBpu hB14 hp15, hF14.trans (Fr.pu hp15 : Fr (· ∈ d.own) w14 w15) fun i hi _ => hi, hp15.size⟩ ?_
  rintro k J t w' hk ⟨rfl, hS, hrw, hBx, hfr, hsz'⟩ hJ
  refine Br.of (fun hlt2 => ?_) (fun hge => ?_)
  · have hlt' : k < ps.length := by have := dtrue hlt2; omega
    obtain ⟨p, hp⟩ : ∃ p, ps[k]? = some p := ⟨_, List.getElem?_eq_getElem hlt'⟩
    obtain ⟨g1, g2⟩ := flat_get ps hp
    obtain ⟨g, hga, hgc, hgb⟩ := hrw.base (fun e => by rw [e] at g1; simp at g1)
    have hpk := hps p (List.mem_of_getElem? hp)
    obtain ⟨nm, q⟩ := p
    have hnm : nm = name := hpk.2
    obtain ⟨pg0, hg0⟩ := AL.get_isSome hpk.1
    have hq := (hG'.near un hun _ (AL.get_mem hg0)).1
    simp only at hq
    obtain ⟨kk, rfl⟩ := Int.eq_ofNat_of_zero_le hq
    obtain ⟨hGk, hKk, hFk, hLk⟩ := refAll_good hun hG' (ps.take k) (name := name) fun p' hp' => hps p' (List.mem_of_mem_take hp')
    generalize hσk : refAll un name (ps.take k) (locked (un : Int) name at_ n σ) = σk at hS hGk hKk hFk hLk
    rw [hnm] at g1 hp hpk
    obtain ⟨b1, f', hf', hfl', hfi'⟩ := hGk.page hun (name := name) (kk := kk) (by rw [hKk]; exact hpk.1)
    have hff : f' = f := by rw [hFk] at hf'; have : AL.get (locked (un : Int) name at_ n σ).files name = some f := hf; rw [this] at hf'; cases hf'; rfl
    subst hff
    have hfok : fileOf σk name = f' := by simp [fileOf, hf']
    generalize hpg : pageOf σk un (name, (kk : Int)) = pg at hfi'
    refine ⟨⟨g, 0, none⟩, hga, by omega, by omega, name, ?_, (kk : Int), ?_, ?_⟩
    · rw [add_def, add_def]; rw [← hgc (k * 2) _ g1]; congr 2; omega
    · rw [add_def, add_def]; rw [← hgc (k * 2 + 1) _ g2]; congr 2; omega
    refine alE_intro fun v1 hv1 => ?_
    have hq1 : Pu w' v1 := by rw [hv1]; exact Pu.alloc w' _
    have hbv1 : v1.heap[w'.heap.size]? = some (.cells #[.string ⟨#[]⟩, .int .i64 0] 92) := by rw [hv1]; exact alloc_new w' _
    refine stA_fill hbv1 (by rw [size66]; rfl) rfl rfl fun v2 hbv2 hfv2 hsv2 => ?_
    have hPv2 : Pu w' v2 := hq1.andNew hfv2 fun i hi => by omega
    have hsv1 : v1.heap.size = w'.heap.size + 1 := by rw [hv1]; simp
    refine dwE_intro fun v3 hpv3 hhv3 => ?_
    have hPv3 := hPv2.trans hpv3
    have hS3 := hS.pu hPv3
    have hB3 := hBpu hBx hPv3
    have hbv3 := hpv3.blk hbv2
    refine ⟨fun v => SysAt v d' 1 σk ∧ Box v ∧ v.heap[w'.heap.size]? = some (.cells #[.string name, .int .i64 (kk : Int)] 92), ⟨hS3, hB3, hbv3⟩, (un : Int), fun v hv => by rw [cell_blk hv.2.1.1]; rfl, by omega, by omega, some (d'.c un), fun v hv => ?_, name, fun v hv => by rw [add_def, cell_blk hv.2.2]; rfl, (kk : Int), fun v hv => by rw [add_def, cell_blk hv.2.2]; rfl, pg.cells, Page.size_cells _, fun v hv => ?_, ?_⟩
    · have := hv.1.cellC hun; rw [hS'] at this; simpa using this
    · have := look_page hv.1 hun (name, (kk : Int)); rw [hpg] at this; exact this
    refine alE_intro fun v4 hv4 => ?_
    have hq4 : Pu v3 v4 := by rw [hv4]; exact Pu.alloc v3 _
    have hbv4 : v4.heap[v3.heap.size]? = some (.cells (zc Tryz.prog 89) 89) := by rw [hv4]; exact alloc_new v3 _
    refine ⟨⟨hS3.pu hq4, hBpu hB3 hq4, hq4.blk hbv3⟩, ?_⟩
    refine stA_fill hbv4 (by rw [Page.size_cells, size61]) (by rw [zero61, Page.size_cells, Page.size_cells]) (Page.one _) fun v5 hbv5 hfv5 hsv5 => ?_
    have hPv5 : Pu w' v5 := (hPv3.trans hq4).andNew hfv5 fun i hi => by have := hPv3.size; omega
    have hS5 := hS.pu hPv5
    have hB5' := hBpu hBx hPv5
    have hs3' : w'.heap.size + 1 ≤ v3.heap.size := by have := hpv3.size; omega
    have hbv25 : v5.heap[w'.heap.size]? = some (.cells #[.string name, .int .i64 (kk : Int)] 92) := hfv5.blk (hq4.blk hbv3) (by omega)
    have hlt'' : ∀ b ∈ d'.own, b < w'.heap.size := hS.lt
    -- its known, clean bytes are read anew
    refine loopUp 32 (fun m t v6 => t = (m : Int) ∧ v6.heap[v3.heap.size]? = some (.cells (refreshP f' kk m pg).cells 89) ∧ Fr (· = v3.heap.size) v5 v6) ⟨rfl, by rw [refreshP_zero]; exact hbv5, Fr.refl _ _⟩ ?_
    rintro m J2 t v6 hm ⟨rfl, hbv6, hfv6⟩ hJ2
    have hS6 : SysAt v6 d' 1 σk := hS5.fr hfv6 fun b hb e => by have := hlt'' b hb; omega
    have hB6 : Box v6 := hBfr hB5' hfv6 fun k hk => .inr (by omega)
    have hbv26 : v6.heap[w'.heap.size]? = some (.cells #[.string name, .int .i64 (kk : Int)] 92) := hfv6.blk hbv25 (by omega)
    refine Br.of (fun hm1 => ?_) (fun hm1 => ?_)
    · have hm32 : m < 32 := by have := dtrue hm1; omega
      have skip : (pg.kn m = false ∨ pg.di m = true) → J2 (IntKind.i64.wrap ((m : Int) + 1)) v6 := fun hsk => by
        rw [wrap_in (by omega) (by omega)]
        exact hJ2 _ _ hm32 ⟨by omega, by rw [hbv6, refreshP_skip _ _ _ _ hsk], hfv6⟩
      refine ⟨by omega, by omega, pg.kn m, by rw [add_def, add_def, cell_blk hbv6, show 0 + 32 + (m : Int).toNat * 1 = 32 + m by omega]; exact Page.get_kn _ hm32, Br.of (fun hkn => ?_) (fun hkn => skip (.inl hkn))⟩
      refine ⟨by omega, by omega, pg.di m, by rw [add_def, add_def, cell_blk hbv6, show 0 + 64 + (m : Int).toNat * 1 = 64 + m by omega]; exact Page.get_di _ hm32, Br.of (fun hdi => ?_) (fun hdi => skip (.inr (by simpa using hdi)))⟩
      have hdi : pg.di m = false := by simpa using hdi
      have hin := hfi' m hm32 (.inl hkn)
      refine dwE_intro fun v7 hpv7 hhv7 => ?_
      have hS7 := hS6.pu hpv7
      have hB7' := hBpu hB6 hpv7
      obtain ⟨s, hls, hrs, _, hmem, hsl⟩ := look_file hS7 hf'
      obtain ⟨x, hx⟩ : ∃ x, f'[kk * 32 + m]? = some x := ⟨_, List.getElem?_eq_getElem hin⟩
      obtain ⟨a, haa, hca, hba⟩ := hrs.cell (j := kk * 32 + m) (v := u8V x) (by rw [List.getElem?_map, hx]; rfl)
      refine ⟨some d'.M, by have := hS7.cellM; rw [hS'] at this; exact this, name, by rw [cell_blk hB7'.2.1]; rfl, s, hls, (kk : Int), by rw [add_def, cell_blk (hpv7.blk hbv26)]; rfl, a, haa, ?_⟩
      rw [wrap_in (n := (kk : Int) * 32) (by omega) (by omega), wrap_in (n := (kk : Int) * 32 + (m : Int)) (by omega) (by omega), hsl]
      refine ⟨by omega, by omega, _, by rw [show ((kk : Int) * 32 + (m : Int)).toNat * 1 = kk * 32 + m by omega]; exact hca, by omega, by omega, ?_⟩
      rw [add_def]
      refine st1_intro (hpv7.blk hbv6) (by rw [Page.size_cells]; omega) fun v8 hv8 hbv8 => ?_
      have hfv8 : Fr (· = v3.heap.size) v7 v8 := by rw [hv8]; exact Fr.cell v7 _ _ _
      rw [wrap_in (by omega) (by omega)]
      refine hJ2 _ _ hm32 ⟨by omega, ?_, (hfv6.trans (Fr.pu hpv7 : Fr (· = v3.heap.size) v6 v7) fun i hi _ => hi).trans hfv8 fun i hi _ => hi⟩
      rw [hbv8, show 0 + (m : Int).toNat * 1 = m by omega, show Value.int .u8 ((x.toNat : Nat) : Int) = u8V x from rfl, Page.set_b _ hm32, refreshP_step f' kk m pg hx hkn hdi]
    · have hm32 : m = 32 := by have := dfalse hm1; omega
      subst hm32
      refine dwE_intro fun v7 hpv7 hhv7 => ?_
      have hS7 := hS6.pu hpv7
      have hB7' := hBpu hB6 hpv7
      have hbv27 := hpv7.blk hbv26
      obtain ⟨v8, hr8, hm8, hf8', hs8⟩ := (hS7.ca un hun).upd keysP u48 (name, (kk : Int)) (refreshP f' kk 32 pg)
      have hS8 := hS7.setCache hun hm8 hf8'
      refine ⟨(un : Int), by rw [cell_blk hB7'.1]; rfl, by omega, by omega, some (d'.c un), by have := hS7.cellC hun; rw [hS'] at this; simpa using this, name, by rw [add_def, cell_blk hbv27]; rfl, (kk : Int), by rw [add_def, cell_blk hbv27]; rfl, _, Page.size_cells _, cells_at (hpv7.blk hbv6) 96, v8, hr8, ?_⟩
      show J _ _
      rw [wrap_in (by omega) (by omega)]
      have htk : ps.take (k + 1) = ps.take k ++ [(name, (kk : Int))] := by rw [List.take_add_one, hp]; rfl
      have hcown : d'.c un ∈ d'.own := d'.mem_c hun
      have hF58 : Fr (fun b => b = v3.heap.size ∨ b = d'.c un) v5 v8 := ((hfv6.mono fun i hi _ => .inl hi).trans (Fr.pu hpv7 : Fr (fun b => b = v3.heap.size ∨ b = d'.c un) v6 v7) fun i hi _ => hi).trans hf8' fun i hi _ => .inr hi
      refine hJ _ _ hlt' ⟨by omega, ?_, ?_, ?_, ?_, ?_⟩
      · rw [htk, refAll_snoc, hσk]
        simp only [refreshS, Int.toNat_natCast, hfok, hpg]
        exact hS8
      · refine (hrw.pu hPv5).fr hF58 fun b hb => ?_
        have := hblk b hb
        have := hrw.lt b hb
        rintro (hx | hx)
        · omega
        · have := hlt14 _ hcown; omega
      · refine hBfr hB5' hF58 fun b hb => ?_
        rcases hb with hb | hb
        · exact .inr (by omega)
        · rcases hown' _ hcown with ho | ho
          · exact .inl (by rw [hb]; exact hlt _ ho)
          · exact .inr (by omega)
      · refine (hfr.trans (Fr.pu hPv5 : Fr (· ∈ d.own) w' v5) fun i hi _ => hi).trans hF58 fun i hi hlt => ?_
        have := hfr.size
        rcases hi with hi | hi
        · omega
        · rcases hown' _ hcown with ho | ho
          · rw [hi]; exact ho
          · omega
      · have := hPv5.size; have := hF58.size; omega
  · have hk' : k = ps.length := by have := dfalse hge; omega
    subst hk'
    rw [List.take_length] at hS
    show runD Tryz.prog [leaveD d'] w' _
    refine leave_c hS fun w9 h9 hf9 _ => ⟨by rw [hC0], .inr ⟨hC0, d', ps, hperm, h9, hfr.trans hf9 fun i hi _ => by rw [show i = d'.S from hi, hS']; exact mem_S d, fun b hb => (hown' b hb).elim .inl fun h => .inr (by omega), hS'⟩⟩
end Go.Proofs.YtnigfiljenfgjaaGreat
