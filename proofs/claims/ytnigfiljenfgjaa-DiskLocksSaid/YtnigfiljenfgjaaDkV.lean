/- The disk: the law of locks, walked. -/
import Derived.Test.YtnigfiljenfgjaaDkU
import Derived.Test.YtnigfiljenfgjaaShSeventeen
set_option maxRecDepth 100000
set_option linter.unusedVariables false
set_option linter.unusedSimpArgs false
set_option linter.unusedSectionVars false
namespace Go.Proofs.Ytnigfiljenfgjaa
open Go.Sh Go.RowKit

theorem u8_wrap (n : Int) : ∃ y : UInt8, IntKind.u8.wrap n = ((y.toNat : Nat) : Int) := by
  have h : 0 ≤ IntKind.u8.wrap n ∧ IntKind.u8.wrap n ≤ 255 := by
    have : IntKind.u8.wrap n = n % 256 := by
      unfold IntKind.wrap
      simp [IntKind.bits, IntKind.signed]
    omega
  refine ⟨UInt8.ofNat (IntKind.u8.wrap n).toNat, ?_⟩
  have : (UInt8.ofNat (IntKind.u8.wrap n).toNat).toNat = (IntKind.u8.wrap n).toNat := by simp; omega
  rw [this]; omega

theorem lockC_none {σ : Sys} {u at_ : Nat} {f : List UInt8} (h : Calm σ at_ f) (hl : σ.locks = []) (hu : u < 4) (hat : at_ < 100) : lockC (u : Int) nF (at_ : Int) 1 σ = 0 := by
  unfold lockC
  rw [enter_F (by omega) (by omega) h.file, if_pos rfl, hl, if_neg (by omega), if_neg (by omega), if_neg (by omega), if_neg (by omega)]; rfl
theorem meets_self (u at_ : Nat) : meetsB nF (at_ : Int) 1 ⟨(u : Int), nF, (at_ : Int), 1⟩ = true := by
  unfold meetsB
  exact decide_eq_true ⟨rfl, by show (at_ : Int) < at_ + 1; omega, by show (at_ : Int) < at_ + 1; omega⟩
theorem lockC_other {σ : Sys} {u v at_ : Nat} {f : List UInt8} (h : Calm σ at_ f) (hl : σ.locks = [⟨(u : Int), nF, (at_ : Int), 1⟩]) (hv : v < 4) (huv : u ≠ v) (hat : at_ < 100) : lockC (v : Int) nF (at_ : Int) 1 σ = 12 := by
  have hm := meets_self u at_
  have hd : decide ((u : Int) = (v : Int)) = false := decide_eq_false (by omega)
  unfold lockC
  rw [enter_F (by omega) (by omega) h.file, if_pos rfl, hl, if_neg (by omega), if_neg (by omega), if_neg (by omega), if_neg (by omega)]
  simp [hm, hd]
theorem lockC_mine {σ : Sys} {u at_ : Nat} {f : List UInt8} (h : Calm σ at_ f) (hl : σ.locks = [⟨(u : Int), nF, (at_ : Int), 1⟩]) (hu : u < 4) (hat : at_ < 100) : lockC (u : Int) nF (at_ : Int) 1 σ = 5 := by
  have hm := meets_self u at_
  unfold lockC
  rw [enter_F (by omega) (by omega) h.file, if_pos rfl, hl, if_neg (by omega), if_neg (by omega), if_neg (by omega), if_neg (by omega)]
  simp [hm]
theorem locksOk_one {σ : Sys} {u at_ : Nat} (hat : at_ < 100) (hl : σ.locks = [⟨(u : Int), nF, (at_ : Int), 1⟩]) : LocksOk σ := by
  refine ⟨fun l h => ?_, by rw [hl]; simp⟩
  rw [hl] at h; simp at h; subst h
  exact ⟨by show (0 : Int) ≤ at_; omega, by show (at_ : Int) ≤ 131072; omega, by show (0 : Int) ≤ 1; omega, by show (1 : Int) ≤ 131072; omega⟩
theorem calm_base {at_ : Nat} : Calm (base 100) at_ (List.replicate 100 0) := ⟨good_base (by omega), base_file 100, by simp, fun u hu => .inl rfl⟩

set_option maxHeartbeats 1000000 in
theorem locks_c (w : World) (l0 : SV) (row : List Int) (hrow : RdSl w l0 row) (n1 : Int) :
    Calls Try.prog 4 #[.slice l0.a l0.len l0.cap, .int .i64 n1] w fun e w' => e = .returned (.bool true) ∧ Pu w w' := by
  refine F4_calls l0 n1 w _ ?_
  refine Br.of (fun _ => ?_) (fun hlen => ?_)
  · refine Calls.mono (known_c w) ?_
    rintro e w1 ⟨rfl, hp⟩
    exact ⟨true, rfl, rfl, hp⟩
  have hlen : l0.len ≤ 200 := by have := dfalse hlen; omega
  have hrl : l0.len = row.length := hrow.len
  refine Calls.mono (new_c w) ?_
  rintro e w2 ⟨rfl, h2, hp2⟩
  have ho2 : ∀ b ∈ (newLay w.heap.size).own, w.heap.size ≤ b := fun b hb => by
    simp [newLay, Lay.own, blkOf] at hb; omega
  generalize newLay w.heap.size = d at h2 ho2 ⊢
  refine ⟨some ⟨d.S, 0, none⟩, rfl, false, w2, eqS_ptr_nil u23 _ _ _ w2, ?_⟩
  obtain ⟨m1, m2⟩ := make_new
  refine Calls.mono (make_c h2 nF) ?_
  rintro e w3 ⟨rfl, d3, hL3⟩
  rw [m2] at hL3
  rw [m1]
  obtain ⟨hp3, ho3⟩ := hL3.next hp2 ho2
  refine ⟨0, rfl, Br.f rfl ?_⟩
  obtain ⟨r1, r2⟩ := resize_base (n := 100) (by omega)
  show Calls Try.prog 7 #[d.ptr, .string nF, .int .i64 ((100 : Nat) : Int)] w3 _
  rw [hL3.ptrEq]
  refine Calls.mono (resize_c hL3.sys (good_base (by omega)).small (good_base (by omega)).near nF ((100 : Nat) : Int)) ?_
  rintro e w4 ⟨rfl, d4, hL4⟩
  rw [r2] at hL4
  rw [r1]
  obtain ⟨hp4, ho4⟩ := hL4.next hp3 ho3
  refine ⟨0, rfl, Br.f rfl ?_⟩
  obtain ⟨at_, hat, ea⟩ := mod100 n1
  refine ⟨rfl, by decide, rfl, by decide, ?_⟩
  rw [ea]
  have hS4 : d4.S = d.S := by rw [hL4.ptr, hL3.ptr]
  refine loopUp row.length (fun k s w' => ∃ (x : UInt8) (d' : Lay) (σ : Sys) (f : List UInt8), s = (((x.toNat : Nat) : Int), (k : Int)) ∧ d'.S = d.S ∧ SysAt w' d' 0 σ ∧ Calm σ at_ f ∧ σ.locks = [] ∧ f[at_]? = some x ∧ Pu w w' ∧ ∀ b ∈ d'.own, w.heap.size ≤ b)
    ⟨0, d4, base 100, List.replicate 100 0, rfl, hS4, hL4.sys, calm_base, rfl, by rw [List.getElem?_replicate, if_pos hat], hp4, ho4⟩ ?_
  rintro k J s w5 hk ⟨x, d5, σ5, f5, rfl, hS5, h5, hc5, hl5, hx5, hp5, ho5⟩ hJ
  rw [show some (⟨d.S, 0, none⟩ : Addr) = some ⟨d5.S, 0, none⟩ by rw [hS5]]
  rw [F4_4, hrl]
  refine Br.of (fun hlt => ?_) (fun hge => ?_)
  · have hlt' : k < row.length := by have := dtrue hlt; omega
    obtain ⟨r, hr⟩ : ∃ r, row[k]? = some r := ⟨_, List.getElem?_eq_getElem hlt'⟩
    obtain ⟨a, ha, hka, hca, _⟩ := (hrow.pu hp5).int hr
    obtain ⟨u, hu, eu, ev⟩ := mod4 r
    generalize hv : (u + 1) % 4 = v at ev
    have hv4 : v < 4 := by omega
    have huv : u ≠ v := by omega
    refine ⟨a, ha, by omega, by omega, r, by simpa using hca, rfl, by decide, rfl, by decide, rfl, by decide, ?_⟩
    rw [eu, ev]
    -- another station looks
    obtain ⟨q1, q2⟩ := read1 (σ := σ5) hv4 hc5.file (at_ := at_) (by rw [hc5.len]; exact hat)
    have hrd1 := read_c h5 hc5.good.small (v : Int) nF (at_ : Int) 1
    refine Calls.mono hrd1 ?_
    rintro e w6 ⟨l6, rfl, hL6, _, _⟩
    rw [q2] at hL6
    refine ⟨l6, _, rfl, ?_⟩
    obtain ⟨hp6, ho6⟩ := hL6.next hp5 ho5
    have hc6 := hc5.read hv4 hat
    generalize hσ6 : σ5.setCache v (AL.put (σ5.caches v) (nF, ((at_ / 32 : Nat) : Int)) (pageR σ5 v nF (at_ / 32) at_ 1 f5)) = σ6 at hL6 hc6
    have hl6 : σ6.locks = [] := by rw [← hσ6]; exact hl5
    -- the lock
    have hlk1 := lock_c hL6.sys hc6.good (locksOk_nil hl6) (u : Int) nF (at_ : Int) 1
    refine Calls.mono hlk1 ?_
    rintro e w7 ⟨rfl, hcase⟩
    have hC7 := lockC_none hc6 hl6 hu hat
    rcases hcase with ⟨hne, _⟩ | ⟨_, d7, ps7, hps7, hL7⟩
    · exact absurd hC7 hne
    rw [hC7]
    rw [Int.toNat_natCast] at hps7 hL7
    refine ⟨0, rfl, Br.f rfl ⟨rfl, by decide, ?_⟩⟩
    obtain ⟨hp7, ho7⟩ := hL7.next hp6 ho6
    obtain ⟨hc7, hl7, hv7⟩ := hc6.lock hu hat hx5 hps7
    generalize refAll u nF ps7 (locked (u : Int) nF (at_ : Int) 1 σ6) = σ7 at hL7 hc7 hl7 hv7
    rw [hl6, List.nil_append] at hl7
    rw [show some (⟨d5.S, 0, none⟩ : Addr) = some ⟨d7.S, 0, none⟩ by rw [hL7.ptr]]
    -- another one may not
    have hlk2 := lock_c hL7.sys hc7.good (locksOk_one hat hl7) (v : Int) nF (at_ : Int) 1
    refine Calls.mono hlk2 ?_
    rintro e w8 ⟨rfl, hcase⟩
    have hC8 := lockC_other hc7 hl7 hv4 huv hat
    rcases hcase with ⟨_, hL8⟩ | ⟨h0, _⟩
    case inr => rw [hC8] at h0; exact absurd h0 (by decide)
    rw [hC8]
    refine ⟨12, rfl, Br.f rfl ?_⟩
    obtain ⟨hp8, ho8⟩ := hL8.next hp7 ho7
    -- nor itself twice
    have hlk3 := lock_c hL8.sys hc7.good (locksOk_one hat hl7) (u : Int) nF (at_ : Int) 1
    refine Calls.mono hlk3 ?_
    rintro e w9 ⟨rfl, hcase⟩
    have hC9 := lockC_mine hc7 hl7 hu hat
    rcases hcase with ⟨_, hL9⟩ | ⟨h0, _⟩
    case inr => rw [hC9] at h0; exact absurd h0 (by decide)
    rw [hC9]
    refine ⟨5, rfl, Br.f rfl ?_⟩
    obtain ⟨hp9, ho9⟩ := hL9.next hp8 ho8
    -- it reads what was written
    obtain ⟨q3, q4⟩ := read1 (σ := σ7) hu hc7.file (at_ := at_) (by rw [hc7.len]; exact hat)
    have hrd2 := read_c hL9.sys hc7.good.small (u : Int) nF (at_ : Int) 1
    refine Calls.mono hrd2 ?_
    rintro e w10 ⟨l10, rfl, hL10, hr10, hb10⟩
    rw [q4] at hL10 hr10
    rw [q3]
    obtain ⟨hp10, ho10⟩ := hL10.next hp9 ho9
    have hc10 := hc7.read hu hat
    have hl10 : l10.len = 1 := by have := u8V_map_len _ hr10; simpa using this
    generalize hσ10 : σ7.setCache u (AL.put (σ7.caches u) (nF, ((at_ / 32 : Nat) : Int)) (pageR σ7 u nF (at_ / 32) at_ 1 f5)) = σ10 at hL10 hc10
    have hl10' : σ10.locks = [⟨(u : Int), nF, (at_ : Int), 1⟩] := by rw [← hσ10]; exact hl7
    refine ⟨l10, 0, rfl, Br.f rfl (Br.f (by rw [hl10]; rfl) ?_)⟩
    rw [hv7] at hr10
    obtain ⟨a10, ha10, hca10, _⟩ := hr10.cell (j := 0) (v := u8V x) (by simp)
    refine ⟨a10, ha10, by omega, by omega, _, by rw [show (0 : Int).toNat * 1 = 0 from rfl]; exact hca10, Br.f (by simp) ?_⟩
    obtain ⟨a', ha', hka', hca', _⟩ := (hrow.pu hp10).int hr
    obtain ⟨y, hy⟩ := u8_wrap (IntKind.i64.wrap ((IntKind.i64.wrap (r.tdiv 4)) + (k : Int)))
    refine ⟨a', ha', by omega, by omega, r, by simpa using hca', rfl, by decide, ?_⟩
    rw [hy]
    refine alE_intro fun w11 hw11 => ?_
    have hq11 : Pu w10 w11 := by rw [hw11]; exact Pu.alloc w10 _
    have hb11 : w11.heap[w10.heap.size]? = some (.cells #[u8V y] 5) := by rw [hw11]; exact alloc_new w10 _
    have h11 := hL10.sys.pu hq11
    -- and writes
    obtain ⟨q5, q6⟩ := write1 (σ := σ10) hu hc10.file (at_ := at_) (by rw [hc10.len]; exact hat) y
    have hwr := write_c h11 hc10.good.small (u : Int) nF (at_ : Int) (l := ⟨some ⟨w10.heap.size, 0, none⟩, 1, 1⟩) (bs := [y]) (rdsl_one hb11 rfl (by omega)) fun b hb => by
      simp [blkOf] at hb; subst hb
      exact ⟨blk_lt hb11, fun ho => by have := hL10.sys.lt _ ho; omega⟩
    refine Calls.mono hwr ?_
    rintro e w12 ⟨rfl, hL12⟩
    rw [q6] at hL12
    rw [q5]
    refine ⟨0, rfl, Br.f rfl ?_⟩
    obtain ⟨hp12, ho12⟩ := hL12.next (hp10.trans hq11) ho10
    obtain ⟨hG12, hf12, hun⟩ := hc10.unlock hu hat y rfl
    have hl12 : (σ10.setCache u (AL.put (σ10.caches u) (nF, ((at_ / 32 : Nat) : Int)) (wpg (pageR σ10 u nF (at_ / 32) at_ 1 f5) (at_ % 32) y))).locks = [⟨(u : Int), nF, (at_ : Int), 1⟩] := hl10'
    generalize σ10.setCache u (AL.put (σ10.caches u) (nF, ((at_ / 32 : Nat) : Int)) (wpg (pageR σ10 u nF (at_ / 32) at_ 1 f5) (at_ % 32) y)) = σ12 at hL12 hG12 hf12 hun hl12
    -- and gives the lock up
    have hul := unlock_c hL12.sys hG12 (locksOk_one hat hl12) (u : Int) nF (at_ := (at_ : Int)) (n := 1) (by omega) (by omega)
    refine Calls.mono hul ?_
    rintro e w13 ⟨rfl, hcase⟩
    have hC13 : unlockC (u : Int) nF (at_ : Int) 1 σ12 = 0 := by
      unfold unlockC
      rw [enter_F (by omega) (by omega) hf12, if_pos rfl, if_pos (by rw [hl12]; simp)]
    rcases hcase with ⟨hne, _⟩ | ⟨_, d13, ps13, hps13, hL13⟩
    · exact absurd hC13 hne
    rw [hC13]
    rw [Int.toNat_natCast] at hps13 hL13
    refine ⟨0, rfl, Br.f rfl ?_⟩
    obtain ⟨hp13, ho13⟩ := hL13.next hp12 ho12
    have hc13 := hun ps13 hps13 (σ12.locks.erase ⟨(u : Int), nF, (at_ : Int), 1⟩)
    show J _ _
    rw [wrap_in (by omega) (by omega)]
    refine hJ _ _ hlt' ⟨y, d13, _, _, Prod.ext rfl (by show (k : Int) + 1 = ((k + 1 : Nat) : Int); omega), by rw [hL13.ptr, hL7.ptr, hS5], hL13.sys, hc13, by rw [hl12]; simp, ?_, hp13, ho13⟩
    rw [List.getElem?_set_self (by rw [hc5.len]; exact hat)]
  · refine Calls.mono (known_c w5) ?_
    rintro e w6 ⟨rfl, hp6⟩
    exact ⟨true, rfl, rfl, hp5.trans hp6⟩
theorem locks_k (w : World) (l0 : SV) (row : List Int) (hrow : RdSl w l0 row) (_ : Lim.ok row) (n1 : Int) (_ : Lim.ok n1) :
    Calls Try.prog 4 #[.slice l0.a l0.len l0.cap, .int .i64 n1] w fun e w' => e = .returned (.bool true) ∧ Pu w w' := locks_c w l0 row hrow n1
end Go.Proofs.Ytnigfiljenfgjaa
