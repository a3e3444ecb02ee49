/- The disk: giving a lock up. -/
import Derived.Test.YtnigfiljenfgjaaDkS
set_option maxRecDepth 100000
set_option linter.unusedVariables false
set_option linter.unusedSimpArgs false
set_option linter.unusedSectionVars false
namespace Go.Proofs.Ytnigfiljenfgjaa
open Go.Sh Go.RowKit

theorem delete_c {w : World} {s : SV} {ls : List Lock} (hr : RowAt w 70 4 s (ls.flatMap Lock.cells)) (hlen : ls.length ≤ 1000000) {k : Nat} (hk : k < ls.length) :
    Calls Try.prog 28 #[.slice s.a s.len s.cap, .int .i64 (k : Int), .int .i64 ((k : Int) + 1)] w fun e w' => ∃ s' : SV, e = .returned (.slice s'.a s'.len s'.cap) ∧ RowAt w' 70 4 s' ((ls.eraseIdx k).flatMap Lock.cells) ∧ Fr (· ∈ blkOf s) w w' ∧ blkOf s' = blkOf s := by
  have hsl : s.len = ls.length := by have := hr.1; rw [locks_len] at this; omega
  obtain ⟨hv, hc | ⟨g, cur, h3, h4, h5, h6, h7, h8⟩⟩ := hr
  · rw [hc] at hsl; simp at hsl; omega
  obtain ⟨i, hi, hz, hsz, hby⟩ := info_parts info70
  refine F28_calls s _ _ w _ ?_
  rw [F28_1, h3]
  have hcap : s.cap ≠ 0 := by omega
  have hsa : (Instr.sliceAt 50 (.slice (some ⟨g, 0, none⟩) s.len s.cap) (some (.int .i64 (k : Int))) (some (.int .i64 ((k : Int) + 1))) (some (.int .i64 ((s.len : Nat) : Int)))).run Try.prog w =
      .ok (sliced (some ⟨g, 0, none⟩) k (k + 1) s.len 4) w := by
    rw [run_sliceAt_slice (P := Try.prog) w 50 _ _ _ _ (by rw [elem50]; exact u50'), run_slice_lhm (P := Try.prog) w 50 (some ⟨g, 0, none⟩) s.len s.cap (by rw [elem50]; exact u50') .i64 .i64 .i64 (k : Int) ((k : Int) + 1) ((s.len : Nat) : Int) (by omega) (by omega) (by omega) (by omega)]
    have hso : (sizeOf (Try.prog.elem 50)).run Try.prog w = .ok 4 w := by rw [elem50]; simp [sizeOf, typeInfo, hi, hsz]
    rw [hso]
    simp only [Result.andThen_ok, Int.toNat_natCast]
    rw [show ((k : Int) + 1).toNat = k + 1 by omega]
  refine ⟨⟨if s.len = k then some ⟨g, 0, none⟩ else (some (⟨g, 0, none⟩ : Addr)).map (·.add (k * 4)), k + 1 - k, s.len - k⟩, w, hsa, ?_⟩
  refine Br.f (by simp; omega) ?_
  refine dwE_intro fun w3 hp3 hh3 => ?_
  have h43 := hp3.blk h4
  have hkn : ((k : Int) + 1).toNat = k + 1 := by omega
  rw [Int.toNat_natCast, hkn]
  refine ⟨by omega, by omega, by omega, by omega, by omega, by omega, ?_⟩
  obtain ⟨m, hm⟩ : ∃ m, m = s.len - (k + 1) := ⟨_, rfl⟩
  rw [← hm, if_neg hcap, Nat.sub_zero, Nat.sub_zero]
  have e0 : (some (⟨g, 0, none⟩ : Addr)).map (fun x => x.add (0 * 4)) = some ⟨g, 0, none⟩ := by simp [add_def]
  rw [e0]
  obtain ⟨a2, ha2, hc2⟩ : ∃ a2, (if s.cap = k + 1 then some (⟨g, 0, none⟩ : Addr) else (some (⟨g, 0, none⟩ : Addr)).map (fun x => x.add ((k + 1) * 4))) = some a2 ∧ ∀ j u, (((ls.drop (k + 1)).flatMap Lock.cells))[j]? = some u → w3.cell? (a2.add j) = some u := by
    by_cases e : s.cap = k + 1
    · rw [if_pos e]
      refine ⟨_, rfl, fun j u hu => ?_⟩
      have : ls.drop (k + 1) = [] := List.drop_of_length_le (by omega)
      rw [this] at hu; simp at hu
    · rw [if_neg e]
      refine ⟨⟨g, (k + 1) * 4, none⟩, by simp [add_def], fun j u hu => ?_⟩
      rw [add_def, cell_blk h43]
      rw [← flat_drop, List.getElem?_drop, ← h8, List.getElem?_take] at hu
      split at hu
      · simpa using hu
      · cases hu
  rw [ha2]
  have hnl : ((ls.drop (k + 1)).flatMap Lock.cells).length = m * i.size := by rw [hsz, locks_len, List.length_drop]; omega
  have hra := run_append_room (P := Try.prog) w3 50 50 70 i u50' hi g k s.cap cur h43 a2 m (s.cap - (k + 1)) ((ls.drop (k + 1)).flatMap Lock.cells) hnl hc2 (one_cells _) (by omega) (by rw [hnl, hsz, h7]; omega)
  rw [hsz] at hra hnl
  refine ⟨⟨some ⟨g, 0, none⟩, k + m, s.cap⟩, _, hra, ?_⟩
  have hb5 := setRow_heap w3 g cur (cur.toList.take (k * 4) ++ (ls.drop (k + 1)).flatMap Lock.cells ++ cur.toList.drop (k * 4 + ((ls.drop (k + 1)).flatMap Lock.cells).length)).toArray 70 (0, 0) h43
  have hf5 : Fr (· = g) w3 (w3.setRow g (cur.toList.take (k * 4) ++ (ls.drop (k + 1)).flatMap Lock.cells ++ cur.toList.drop (k * 4 + ((ls.drop (k + 1)).flatMap Lock.cells).length)).toArray) := ⟨rfl, rfl, rfl, by simp, fun j _ hj => setRow_other w3 g j _ hj⟩
  generalize (w3.setRow g (cur.toList.take (k * 4) ++ (ls.drop (k + 1)).flatMap Lock.cells ++ cur.toList.drop (k * 4 + ((ls.drop (k + 1)).flatMap Lock.cells).length)).toArray) = w5 at hb5 hf5
  refine ⟨by omega, by simp; omega, by omega, by simp; omega, ?_⟩
  simp only [Int.toNat_natCast]
  have hcm : ¬ s.cap = k + m := by omega
  rw [if_neg hcm, show s.len - (k + m) = 1 by omega]
  have e1 : (some (⟨g, 0, none⟩ : Addr)).map (fun x => x.add ((k + m) * 4)) = some ⟨g, (k + m) * 4, none⟩ := by simp [add_def]
  rw [e1]
  have hcl : cur.toList.length = s.cap * 4 := by simp [h7]
  obtain ⟨w6, hr6, hb6, hf6, hs6⟩ := clearOne (o := (k + m) * 4) (c := s.cap - (k + m)) hb5 (by simp; omega)
  refine ⟨w6, hr6, ⟨some ⟨g, 0, none⟩, k + m, s.cap⟩, rfl, ?_, ?_, by simp [blkOf, h3]⟩
  · have her : ls.eraseIdx k = ls.take k ++ ls.drop (k + 1) := List.eraseIdx_eq_take_drop_succ ls k
    have hfl : (ls.eraseIdx k).flatMap Lock.cells = (ls.take k).flatMap Lock.cells ++ (ls.drop (k + 1)).flatMap Lock.cells := by rw [her, List.flatMap_append]
    have htk : cur.toList.take (k * 4) = (ls.take k).flatMap Lock.cells := by
      rw [← flat_take, ← h8, List.take_take]; congr 1; omega
    have hl1 : ((ls.take k).flatMap Lock.cells).length = k * 4 := by rw [locks_len, List.length_take]; omega
    refine ⟨?_, .inr ⟨g, _, rfl, hb6, by show k + m ≤ s.cap; omega, h6, ?_, ?_⟩⟩
    · rw [hfl, List.length_append, hl1, hnl]; show _ = (k + m) * 4; omega
    · simp only [List.size_toArray, List.length_append, List.length_take, List.length_drop, Array.length_toList, List.toList_toArray, Lock.cells, List.length_cons, List.length_nil]
      show _ = s.cap * 4
      have := hnl
      simp only [Array.length_toList] at hcl
      omega
    · show List.take ((k + m) * 4) _ = _
      rw [hfl, htk]
      have hl2 : ((ls.take k).flatMap Lock.cells ++ (ls.drop (k + 1)).flatMap Lock.cells).length = (k + m) * 4 := by rw [List.length_append, hl1, hnl]; omega
      simp only [List.toList_toArray]
      have hLl : (k + m) * 4 ≤ ((ls.take k).flatMap Lock.cells ++ (ls.drop (k + 1)).flatMap Lock.cells ++ cur.toList.drop (k * 4 + ((ls.drop (k + 1)).flatMap Lock.cells).length)).length := by
        rw [List.length_append, hl2]; omega
      rw [List.take_append_of_le_length (by rw [List.length_append, List.length_take, Nat.min_eq_left hLl]; omega), List.take_append_of_le_length (by rw [List.length_take, Nat.min_eq_left hLl]; exact Nat.le_refl _), List.take_take, Nat.min_self,
        List.take_append_of_le_length (by rw [hl2]; exact Nat.le_refl _), ← hl2, List.take_length]
  · exact ((Fr.pu hp3 : Fr (· ∈ blkOf s) w w3).trans hf5 fun j hj _ => by simp [blkOf, h3, show j = g from hj]).trans hf6 fun j hj _ => by simp [blkOf, h3, show j = g from hj]

/-! ### Unlock -/
def unlockC (u : Int) (name : ByteArray) (at_ n : Int) (σ : Sys) : Int := if enterC u name σ = 0 then (if (⟨u, name, at_, n⟩ : Lock) ∈ σ.locks then 0 else 4) else enterC u name σ
theorem erase_first {ls : List Lock} {lk : Lock} : ∀ {k : Nat}, ls[k]? = some lk → (∀ j, j < k → ls[j]? ≠ some lk) → ls.eraseIdx k = ls.erase lk := by
  induction ls with
  | nil => intro k h; simp at h
  | cons l ls ih =>
    intro k h hall
    cases k with
    | zero => simp at h; subst h; simp
    | succ k =>
      have hne : l ≠ lk := fun e => hall 0 (by omega) (by simp [e])
      rw [List.eraseIdx_cons_succ, List.erase_cons_tail (by simpa using hne), ih (by simpa using h) fun j hj => by have := hall (j + 1) (by omega); simpa using this]
/-- The pages are written; then the lock goes. -/
theorem unlock_c {w : World} {d : Lay} {σ : Sys} (h : SysAt w d 0 σ) (hG : Good σ) (hL : LocksOk σ) (u : Int) (name : ByteArray) {at_ n : Int} (ha : 0 ≤ at_ ∧ at_ ≤ 131072) (hn : 0 ≤ n ∧ n ≤ 131072) :
    Calls Try.prog 14 #[d.ptr, .int .i64 u, .string name, .int .i64 at_, .int .i64 n] w fun e w' => e = .returned (.int .i64 (unlockC u name at_ n σ)) ∧
      ((unlockC u name at_ n σ ≠ 0 ∧ Left w w' d d σ) ∨ (unlockC u name at_ n σ = 0 ∧ ∃ d' ps, ps.Perm (((σ.caches u.toNat).map Prod.fst).filter (inPages name at_ n)) ∧
        Left w w' d d' { (wrAll u.toNat name ps (σ, 0)).1 with locks := σ.locks.erase ⟨u, name, at_, n⟩ })) := by
  refine F14_calls _ _ _ _ _ w _ ?_
  refine Calls.mono (enter_c h u name) ?_
  rintro e w2 ⟨rfl, h2, hf2⟩
  have hf2' : Fr (· ∈ d.own) w w2 := hf2.mono fun i hi _ => by rw [show i = d.S from hi]; exact mem_S d
  have bad : ∀ m : Int, ∀ w6, unlockC u name at_ n σ = m → m ≠ 0 → SysAt w6 d 1 σ → Fr (· ∈ d.own) w w6 → runD Try.prog [leaveD d] w6 fun w' => Ending.returned (Value.int .i64 m) = .returned (.int .i64 (unlockC u name at_ n σ)) ∧
      ((unlockC u name at_ n σ ≠ 0 ∧ Left w w' d d σ) ∨ (unlockC u name at_ n σ = 0 ∧ ∃ d' ps, ps.Perm (((σ.caches u.toNat).map Prod.fst).filter (inPages name at_ n)) ∧
        Left w w' d d' { (wrAll u.toNat name ps (σ, 0)).1 with locks := σ.locks.erase ⟨u, name, at_, n⟩ })) := fun m w6 hm h0 h6 hf6 =>
    leave_left h6 hf6 fun w' hLf _ => ⟨by rw [hm], .inl ⟨by rw [hm]; exact h0, hLf⟩⟩
  refine ⟨_, _, rfl, Br.of (fun he => ?_) (fun he => ?_)⟩
  · have he : enterC u name σ ≠ 0 := by simpa using he
    exact bad _ w2 (by simp [unlockC, he]) he h2 hf2'
  have he : enterC u name σ = 0 := by simpa using he
  obtain ⟨hu0, hu4, f, hf⟩ := enterC_zero he
  obtain ⟨un, rfl⟩ := Int.eq_ofNat_of_zero_le hu0
  have hun : un < 4 := by omega
  refine ⟨d.ls, h2.cellL, ?_⟩
  refine Calls.mono (index_c h2.lk hL.2 ⟨(un : Int), name, at_, n⟩) ?_
  rintro e w3 ⟨n3, rfl, hp3, hix⟩
  have h3 := h2.pu hp3
  have hF3 : Fr (· ∈ d.own) w w3 := hf2'.trans (Fr.pu hp3 : Fr (· ∈ d.own) w2 w3) fun i hi _ => hi
  refine ⟨n3, rfl, ?_⟩
  rcases hix with ⟨rfl, hno⟩ | ⟨kx, rfl, hkx, hfirst⟩
  · exact Br.t rfl (bad 4 w3 (by simp only [unlockC, he, if_true, hno, if_false]) (by decide) h3 hF3)
  have hmem : (⟨(un : Int), name, at_, n⟩ : Lock) ∈ σ.locks := List.mem_of_getElem? hkx
  have hC0 : unlockC (un : Int) name at_ n σ = 0 := by simp only [unlockC, he, if_true, hmem]
  refine Br.f (decide_eq_false (by omega)) ?_
  refine Calls.mono (pages_c h3 hG.near hun name (by omega) (by omega) (hG.cnt un hun)) ?_
  rintro e w4 ⟨l, ps, rfl, hrow, hperm, hp4, hblk⟩
  refine ⟨l, rfl, ?_⟩
  have hfl := flat_len ps
  have hl : l.len = ps.length := by have := hrow.1; omega
  rw [hl]
  have hps : ∀ p ∈ ps, p ∈ (σ.caches un).map Prod.fst ∧ p.1 = name := fun p hp => by
    obtain ⟨h1, h2⟩ := List.mem_filter.1 (hperm.mem_iff.1 hp)
    exact ⟨h1, (of_decide_eq_true h2).1⟩
  have hcnt : ps.length ≤ 1000000 := by
    have h1 := hperm.length_eq
    have h2 := List.length_filter_le (inPages name at_ n) ((σ.caches un).map Prod.fst)
    have h3 := hG.cnt un hun
    simp at h2; omega
  have hlocks : ∀ (qs : List Place) (s : Sys × Nat), (wrAll un name qs s).1.locks = s.1.locks := fun qs => by
    induction qs with
    | nil => intro s; rfl
    | cons q qs ih => intro s; simp only [wrAll]; rw [ih]; rfl
  refine loopUp ps.length (fun k t w' => t = (k : Int) ∧ SysAt w' d 1 (wrAll un name (ps.take k) (σ, 0)).1 ∧ RowAt w' 66 2 l (ps.flatMap placeCells) ∧ Fr (· ∈ d.own) w w') ⟨rfl, h3.pu hp4, hrow, hF3.trans (Fr.pu hp4 : Fr (· ∈ d.own) w3 w4) fun i hi _ => hi⟩ ?_
  rintro k J t w' hk ⟨rfl, hS, hrw, hfr⟩ hJ
  refine Br.of (fun hlt => ?_) (fun hge => ?_)
  · have hlt' : k < ps.length := by have := dtrue hlt; omega
    obtain ⟨p, hp⟩ : ∃ p, ps[k]? = some p := ⟨_, List.getElem?_eq_getElem hlt'⟩
    obtain ⟨g1, g2⟩ := flat_get ps hp
    obtain ⟨g, hga, hgc, hgb⟩ := hrw.base (fun e => by rw [e] at g1; simp at g1)
    have hpk := hps p (List.mem_of_getElem? hp)
    obtain ⟨nm, q⟩ := p
    have hnm : nm = name := hpk.2
    rw [hnm] at hp g1 hpk
    obtain ⟨pg, hg⟩ := AL.get_isSome hpk.1
    have hq := (hG.near un hun _ (AL.get_mem hg)).1
    simp only at hq
    obtain ⟨kk, rfl⟩ := Int.eq_ofNat_of_zero_le hq
    obtain ⟨hGk, hKk, hNk⟩ := wrAll_good hun hG (ps.take k) 0 (name := name) fun p' hp' => hps p' (List.mem_of_mem_take hp')
    refine ⟨⟨g, 0, none⟩, hga, by omega, by omega, name, ?_, (kk : Int), ?_, ?_⟩
    · rw [add_def, add_def]; rw [← hgc (k * 2) _ g1]; congr 2; omega
    · rw [add_def, add_def]; rw [← hgc (k * 2 + 1) _ g2]; congr 2; omega
    refine alE_intro fun w5 hw5 => ?_
    have hp5 : Pu w' w5 := by rw [hw5]; exact Pu.alloc w' _
    have hb5 : w5.heap[w'.heap.size]? = some (.cells #[.string ⟨#[]⟩, .int .i64 0] 66) := by rw [hw5]; exact alloc_new w' _
    refine stA_fill hb5 (by rw [size66]; rfl) rfl rfl fun w6 hb6 hf6 hs6 => ?_
    have hP6 : Pu w' w6 := hp5.andNew hf6 fun i hi => by omega
    refine ⟨name, by rw [add_def, cell_blk hb6]; rfl, (kk : Int), by rw [add_def, cell_blk hb6]; rfl, ?_⟩
    obtain ⟨b1, f', hf', hfl', hfi'⟩ := hGk.page hun (name := name) (kk := kk) (by rw [hKk]; exact hpk.1)
    refine Calls.mono (written_c (hS.pu hP6) hun b1 hf' hfl' fun i hi hd => hfi' i hi (.inr hd)) ?_
    rintro e w7 ⟨rfl, h7, hf7⟩
    refine ⟨_, rfl, ?_⟩
    rw [wrap_in (by omega) (by omega)]
    have htk : ps.take (k + 1) = ps.take k ++ [(name, (kk : Int))] := by rw [List.take_add_one, hp]; rfl
    have hle2 : w.heap.size ≤ w2.heap.size := hf2'.size
    refine hJ _ _ hlt' ⟨by omega, ?_, ?_, ?_⟩
    · rw [htk, wrAll_snoc]; simpa using h7
    · exact (hrw.pu hP6).fr hf7 fun b hb hbo => by have := hblk b hb; have := h3.lt b hbo; omega
    · exact (hfr.trans (Fr.pu hP6 : Fr (· ∈ d.own) w' w6) fun i hi _ => hi).trans hf7 fun i hi _ => hi
  · have hk' : k = ps.length := by have := dfalse hge; omega
    subst hk'
    rw [List.take_length] at hS
    generalize hσ : (wrAll un name ps (σ, 0)).1 = σk at hS
    have hlk : σk.locks = σ.locks := by rw [← hσ, hlocks]
    have hkl : kx < σk.locks.length := by rw [hlk]; exact (List.getElem?_eq_some_iff.1 hkx).1
    have hlen := hL.2
    have hkx1 : kx < σ.locks.length := (List.getElem?_eq_some_iff.1 hkx).1
    refine ⟨d.ls, hS.cellL, ?_⟩
    rw [wrap_in (by omega) (by omega)]
    refine Calls.mono (delete_c hS.lk (by rw [hlk]; exact hlen) hkl) ?_
    rintro e w5 ⟨s', rfl, hrow5, hf5, hbs⟩
    refine ⟨s', rfl, ?_⟩
    obtain ⟨n1, n2, n3, n4, n5⟩ := hS.ne
    have hS5 := hf5.blk hS.st fun hb => (n4 _ hb).1 rfl
    rw [ptrE_some, add_def]
    refine st1_intro hS5 (by simp) fun w6 hw6 hb6 => ?_
    have hf6 : Fr (· = d.S) w5 w6 := by rw [hw6]; exact Fr.cell w5 _ _ _
    have hlsown : ∀ b ∈ blkOf d.ls, b ∈ d.own := fun b hb => by simp only [Lay.own, List.mem_cons, List.mem_append]; exact .inr (.inr (.inr (.inr (.inr (.inr (.inl hb))))))
    have h6 := hS.setLocks (ls' := s') (locks' := σk.locks.eraseIdx kx) (hrow5.fr hf6 fun b hb e => (n4 b (by rw [← hbs]; exact hb)).1 e) ((hf5.mono fun i hi _ => .inl hi).trans hf6 fun i hi _ => .inr hi) (by rw [hb6]; rfl) fun b hb => .inl (by rw [← hbs]; exact hb)
    have hF6 : Fr (· ∈ d.own) w w6 := (hfr.trans hf5 fun i hi _ => hlsown i hi).trans hf6 fun i hi _ => by rw [show i = d.S from hi]; exact mem_S d
    have hown' : ∀ b ∈ ({ d with ls := s' } : Lay).own, b ∈ d.own := fun b hb => by
      simp only [Lay.own, List.mem_cons, List.mem_append, hbs] at hb ⊢; exact hb
    rw [hlk, erase_first hkx hfirst] at h6
    refine leave_c (d := { d with ls := s' }) h6 fun w9 h9 hf9 _ => ⟨by rw [hC0], .inr ⟨hC0, { d with ls := s' }, ps, hperm, ⟨?_, hF6.trans hf9 fun i hi _ => by rw [show i = d.S from hi]; exact mem_S d, fun b hb => .inl (hown' b hb), rfl⟩⟩⟩
    rw [Int.toNat_natCast, hσ]
    exact h9
end Go.Proofs.Ytnigfiljenfgjaa
