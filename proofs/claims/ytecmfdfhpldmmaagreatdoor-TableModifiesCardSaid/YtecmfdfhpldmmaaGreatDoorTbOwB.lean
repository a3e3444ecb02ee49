import Derived.Test.YtecmfdfhpldmmaaGreatDoorTbOwA
import Derived.Test.YtecmfdfhpldmmaaGreatDoorTbPrB
import Derived.Test.YtecmfdfhpldmmaaGreatDoorShSixteen
import Derived.Lib.BufferWrite
import Derived.Lib.AppendStr
/- Table: dates written and read by the reference; texts of dates. No condition. -/
set_option maxRecDepth 100000
set_option linter.unusedVariables false
set_option linter.unusedSimpArgs false
namespace Go.Proofs.YtecmfdfhpldmmaaGreatDoor
open Go.Sh Go.RowKit
theorem rLeap_c (n : Nat) (w : World) : Calls Tryz.prog 181 #[.int .i64 (n : Int)] w fun e w' => e = .returned (.bool (leapN n)) /\ Pu w w' := by
  have e4 : (n : Int).tmod 4 = ((n % 4 : Nat) : Int) := tmod_nat n 4
  have e100 : (n : Int).tmod 100 = ((n % 100 : Nat) : Int) := tmod_nat n 100
  have e400 : (n : Int).tmod 400 = ((n % 400 : Nat) : Int) := tmod_nat n 400
  refine F181_calls _ w _ ⟨rfl, by decide, Br.of (fun d => ⟨rfl, by decide, Br.of (fun d1 => ⟨?_, Pu.refl w⟩) (fun d1 => ⟨rfl, by decide, ?_, Pu.refl w⟩)⟩) (fun d => ⟨rfl, by decide, ?_, Pu.refl w⟩)⟩
  · have d := btrue d; have d1 := bntrue d1
    rw [show leapN n = true from by unfold leapN; rw [decide_eq_true (show n % 4 = 0 by omega), decide_eq_true (show n % 100 ≠ 0 by omega)]; rfl]
  · have d := btrue d; have d1 := bnfalse d1
    rw [beq_dec, show leapN n = decide (n % 400 = 0) from by unfold leapN; rw [decide_eq_false (show ¬ n % 100 ≠ 0 by omega), Bool.and_false, Bool.false_or]]
    congr 2; simp only [decide_eq_decide]; omega
  · have d := bfalse d
    rw [beq_dec, show leapN n = decide (n % 400 = 0) from by unfold leapN; rw [decide_eq_false (show ¬ n % 4 = 0 by omega), Bool.false_and, Bool.false_or]]
    congr 2; simp only [decide_eq_decide]; omega
theorem rLen_c (y m : Nat) (w : World) : Calls Tryz.prog 170 #[.int .i64 (y : Int), .int .i64 (m : Int)] w fun e w' => e = .returned (.int .i64 (mdays y m : Nat)) /\ Pu w w' := by
  refine F170_calls _ _ w _ (Br.of (fun d => (rLeap_c y w).mono ?_) (fun d => ?_))
  · rintro e w1 ⟨rfl, hp1⟩
    have d : m = 2 := by have := btrue d; omega
    refine ⟨_, rfl, Br.of (fun d1 => ⟨?_, hp1⟩) (fun d1 => ⟨?_, hp1⟩)⟩
    · unfold mdays; rw [if_pos d, if_pos d1]; rfl
    · unfold mdays; rw [if_pos d, if_neg (by rw [d1]; simp)]; rfl
  have d : ¬ m = 2 := by have := bfalse d; omega
  have e30 : (m = 4 ∨ m = 6 ∨ m = 9 ∨ m = 11) -> mdays y m = 30 := fun h => by unfold mdays; rw [if_neg d, if_pos h]
  refine Br.of (fun d1 => ⟨by rw [e30 (by have := btrue d1; omega)]; rfl, Pu.refl w⟩) (fun d1 => Br.of (fun d2 => ⟨by rw [e30 (by have := btrue d2; omega)]; rfl, Pu.refl w⟩) (fun d2 => Br.of (fun d3 => ⟨by rw [e30 (by have := btrue d3; omega)]; rfl, Pu.refl w⟩) (fun d3 => Br.of (fun d4 => ⟨by rw [e30 (by have := btrue d4; omega)]; rfl, Pu.refl w⟩) (fun d4 => ⟨?_, Pu.refl w⟩))))
  have d1 := bfalse d1; have d2 := bfalse d2; have d3 := bfalse d3; have d4 := bfalse d4
  unfold mdays; rw [if_neg d, if_neg (by omega)]; rfl
theorem rDays_c (y m d : Nat) (w : World) : Calls Tryz.prog 155 #[.int .i64 (y : Int), .int .i64 (m : Int), .int .i64 (d : Int)] w fun e w' => e = daysOut y m d /\ Pu w w' := by
  have no : ¬ IsDate y m d -> ∀ {w'}, Pu w w' -> F155_5 (fun e w' => e = daysOut y m d /\ Pu w w') (y : Int) (m : Int) (d : Int) true [] w' := fun h w' hp => Br.t rfl ⟨by unfold daysOut; rw [if_neg h, if_neg h]; rfl, hp⟩
  refine F155_calls _ _ _ w _ ?_
  refine Br.of (fun d0 => no (fun h => by have := h.1; have := dtrue d0; omega) (Pu.refl w)) (fun d0 => Br.of (fun d1 => no (fun h => by have := h.2.1; have := dtrue d1; omega) (Pu.refl w)) (fun d1 => Br.of (fun d2 => no (fun h => by have := h.2.2.1; have := dtrue d2; omega) (Pu.refl w)) (fun d2 => Br.of (fun d3 => no (fun h => by have := h.2.2.2.1; have := dtrue d3; omega) (Pu.refl w)) (fun d3 => Br.of (fun d4 => no (fun h => by have := h.2.2.2.2.1; have := dtrue d4; omega) (Pu.refl w)) (fun d4 => ?_)))))
  have d0 := dfalse d0
  have d1 := dfalse d1
  have d2 := dfalse d2
  have d3 := dfalse d3
  have d4 := dfalse d4
  refine (rLen_c y m w).mono ?_
  rintro e w1 ⟨rfl, hp1⟩
  refine ⟨_, rfl, ?_⟩
  by_cases hd : d <= mdays y m
  · have hD : IsDate y m d := ⟨by omega, by omega, by omega, by omega, by omega, hd⟩
    have hml := mdays_le y m
    rw [decide_eq_false (by omega)]
    refine Br.f rfl (loopUp (m - 1) (fun k t w' => t.2 = ((k + 1 : Nat) : Int) /\ t.1 = ((d + mfirst y k : Nat) : Int) /\ Pu w w') ⟨rfl, by simp [mfirst], hp1⟩ ?_)
    rintro k J ⟨t1, t2⟩ w3 hk ⟨h2, h1, hp⟩ hJ
    obtain rfl : t2 = ((k + 1 : Nat) : Int) := h2
    obtain rfl : t1 = ((d + mfirst y k : Nat) : Int) := h1
    have hmf := mfirst_le y k
    dsimp only
    refine Br.of (fun d5 => ?_) (fun d5 => ?_)
    · have hk2 : k < m - 1 := by have := dtrue d5; omega
      refine (rLen_c y (k + 1) w3).mono ?_
      rintro e w4 ⟨rfl, hp4⟩
      have hmd := mdays_le y (k + 1)
      refine ⟨_, rfl, ?_⟩
      rw [wrap_in (n := ((k + 1 : Nat) : Int) + 1) (by omega) (by omega), wrap_in (by omega) (by omega)]
      refine hJ _ _ hk2 ⟨by dsimp only; omega, ?_, hp.trans hp4⟩
      dsimp only [mfirst]; omega
    · have hk2 : k = m - 1 := by have := dfalse d5; omega
      subst hk2
      obtain ⟨p, rfl⟩ : ∃ p, y = p + 1 := ⟨y - 1, by omega⟩
      have e0 : (((p + 1 : Nat) : Int) - 1) = (p : Int) := by omega
      have e4 : (p : Int).tdiv 4 = ((p / 4 : Nat) : Int) := tdiv_nat p 4
      have e100 : (p : Int).tdiv 100 = ((p / 100 : Nat) : Int) := tdiv_nat p 100
      have e400 : (p : Int).tdiv 400 = ((p / 400 : Nat) : Int) := tdiv_nat p 400
      refine ⟨rfl, by decide, rfl, by decide, rfl, by decide, ?_, hp⟩
      rw [e0, wrap_in (n := (p : Int)) (by omega) (by omega), e4, e100, e400, wrap_in (n := ((p / 4 : Nat) : Int)) (by omega) (by omega), wrap_in (n := ((p / 100 : Nat) : Int)) (by omega) (by omega), wrap_in (n := ((p / 400 : Nat) : Int)) (by omega) (by omega), wrap_in (n := 365 * (p : Int)) (by omega) (by omega), wrap_in (n := _ + 365 * (p : Int)) (by omega) (by omega), wrap_in (n := _ + 365 * (p : Int) + _) (by omega) (by omega), wrap_in (n := _ + 365 * (p : Int) + _ - _) (by omega) (by omega), wrap_in (by omega) (by omega)]
      unfold daysOut dayOf
      rw [if_pos hD, if_pos hD]
      unfold yfirst
      rw [Nat.add_sub_cancel]
      refine congrArg (fun z : Int => Ending.returned (.tuple #[.int .i64 z, .int .i64 0])) ?_
      omega
  · rw [decide_eq_true (by omega)]
    exact no (fun h => hd h.2.2.2.2.2) hp1
theorem isDate_first {y m : Nat} (hy : 1 <= y /\ y <= 9999) (hm : 1 <= m /\ m <= 12) : IsDate y m 1 := ⟨hy.1, hy.2, hm.1, hm.2, by omega, by have := mdays_le y m; omega⟩
theorem daysOut_first {y m : Nat} (hy : 1 <= y /\ y <= 9999) (hm : 1 <= m /\ m <= 12) : daysOut y m 1 = .returned (.tuple #[.int .i64 ((yfirst y + mfirst y (m - 1) + 1 : Nat) : Int), .int .i64 0]) := by
  unfold daysOut; rw [if_pos (isDate_first hy hm), if_pos (isDate_first hy hm)]; rfl
theorem rSplit_c (n : Nat) (h : 1 <= n /\ n <= 3652059) (w : World) : Calls Tryz.prog 153 #[.int .i64 (n : Int)] w fun e w' => ∃ y m d : Nat, IsDate y m d /\ dayOf y m d = n /\ e = .returned (.tuple #[.int .i64 (y : Int), .int .i64 (m : Int), .int .i64 (d : Int), .int .i64 0]) /\ Pu w w' := by
  refine F153_calls _ w _ (Br.of (fun d => absurd (dtrue d) (by omega)) (fun _ => Br.of (fun d => absurd (dtrue d) (by omega)) (fun _ => Br.of (fun d => absurd (btrue d) (by omega)) (fun _ => ?_))))
  have hend := yfirst_end
  refine loopUp 9998 (fun k t w' => ∃ lo hi : Nat, t = ((lo : Int), (hi : Int)) /\ 1 <= lo /\ lo <= hi /\ hi <= 9999 /\ hi - lo + k <= 9998 /\ yfirst lo < n /\ n <= yfirst (hi + 1) /\ Pu w w') ⟨1, 9999, rfl, by omega, by omega, by omega, by omega, by show 0 < n; omega, by rw [hend]; exact h.2, Pu.refl w⟩ ?_
  rintro k J t w1 hk ⟨lo, hi, rfl, l1, l2, l3, l4, l5, l6, hp⟩ hJ
  dsimp only
  refine Br.of (fun d => ⟨rfl, by decide, ?_⟩) (fun d => ?_)
  · have hlt : lo < hi := by have := dtrue d; omega
    rw [wrap_in (n := (lo : Int) + (hi : Int)) (by omega) (by omega), wrap_in (n := (lo : Int) + (hi : Int) + 1) (by omega) (by omega)]
    have e2 : ((lo : Int) + (hi : Int) + 1).tdiv 2 = (((lo + hi + 1) / 2 : Nat) : Int) := tdiv_nat (lo + hi + 1) 2
    rw [e2, wrap_in (n := (((lo + hi + 1) / 2 : Nat) : Int)) (by omega) (by omega)]
    obtain ⟨mid, hmid⟩ : ∃ mid, mid = (lo + hi + 1) / 2 := ⟨_, rfl⟩
    rw [← hmid]
    have m1 : lo < mid /\ mid <= hi := by omega
    refine (rDays_c mid 1 1 w1).mono ?_
    rintro e w2 ⟨rfl, hp2⟩
    rw [daysOut_first (by omega) (by omega)]
    refine ⟨_, _, rfl, Br.of (fun d1 => ?_) (fun d1 => ?_)⟩
    · have q := dtrue d1
      exact hJ _ _ (by omega) ⟨mid, hi, rfl, by omega, by omega, l3, by omega, by simp only [Nat.sub_self, mfirst] at q; omega, l6, hp.trans hp2⟩
    · have q := dfalse d1
      rw [wrap_in (by omega) (by omega)]
      refine hJ _ _ (by omega) ⟨lo, mid - 1, by rw [show (mid : Int) - 1 = ((mid - 1 : Nat) : Int) by omega], l1, by omega, by omega, by omega, l5, ?_, hp.trans hp2⟩
      rw [show mid - 1 + 1 = mid by omega]
      simp only [Nat.sub_self, mfirst] at q; omega
  · have hlh : hi = lo := by have := dfalse d; omega
    subst hlh
    clear hJ J
    have hys := yfirst_succ l1
    have hm12 := mfirst_year hi
    have hyl := yfirst_le l1
    refine (rDays_c hi 12 1 w1).mono ?_
    rintro e w2 ⟨rfl, hp2⟩
    rw [daysOut_first (by omega) (by omega)]
    have l6' : n <= yfirst hi + mfirst hi 12 := by rw [hm12]; omega
    refine ⟨_, _, rfl, ?_⟩
    refine loopUp 11 (fun k t w' => t.1 = ((12 - k : Nat) : Int) /\ t.2 = ((yfirst hi + mfirst hi (12 - k - 1) + 1 : Nat) : Int) /\ n <= yfirst hi + mfirst hi (12 - k) /\ Pu w w') ⟨rfl, rfl, l6', hp.trans hp2⟩ ?_
    rintro k2 J ⟨t1, t2⟩ w3 hk2 ⟨h1, h2, hle, hp3⟩ hJ
    obtain rfl : t1 = ((12 - k2 : Nat) : Int) := h1
    obtain rfl : t2 = ((yfirst hi + mfirst hi (12 - k2 - 1) + 1 : Nat) : Int) := h2
    dsimp only
    obtain ⟨j, hj⟩ : ∃ j, 12 - k2 = j + 1 := ⟨11 - k2, by omega⟩
    rw [hj] at hle ⊢
    rw [Nat.add_sub_cancel]
    have hmf : mfirst hi (j + 1) = mfirst hi j + mdays hi (j + 1) := rfl
    have hmd := mdays_le hi (j + 1)
    refine Br.of (fun d1 => ?_) (fun d1 => ?_)
    · have q := dtrue d1
      have hj1 : 1 <= j := by
        rcases Nat.eq_zero_or_pos j with h | h
        · subst h; simp only [mfirst] at q; omega
        · exact h
      rw [wrap_in (n := ((j + 1 : Nat) : Int) - 1) (by omega) (by omega), show ((j + 1 : Nat) : Int) - 1 = (j : Int) by omega]
      refine (rDays_c hi j 1 w3).mono ?_
      rintro e w4 ⟨rfl, hp4⟩
      rw [daysOut_first (by omega) (by omega)]
      refine ⟨_, _, rfl, hJ _ _ (by omega) ⟨by dsimp only; omega, by dsimp only; rw [show 12 - (k2 + 1) - 1 = j - 1 by omega], by rw [show 12 - (k2 + 1) = j by omega]; omega, hp3.trans hp4⟩⟩
    · have q := dfalse d1
      have hml := mfirst_le hi j
      refine ⟨hi, j + 1, n - yfirst hi - mfirst hi j, ⟨l1, l3, by omega, by omega, by omega, by omega⟩, ?_, ?_, hp3⟩
      · unfold dayOf; rw [Nat.add_sub_cancel]; omega
      · rw [wrap_in (n := (n : Int) - _) (by omega) (by omega), wrap_in (by omega) (by omega)]
        refine congrArg (fun z : Int => Ending.returned (.tuple #[.int .i64 (hi : Int), .int .i64 ((j + 1 : Nat) : Int), .int .i64 z, .int .i64 0])) ?_
        omega
theorem decN_short : ∀ (k n : Nat), n < 10 ^ (k + 1) -> (decN n).length <= k + 1
  | 0, n, h => by rw [decN_lt (by omega)]; simp
  | k + 1, n, h => by
    by_cases h1 : n < 10
    · rw [decN_lt h1]; simp
    · rw [decN_ge h1, List.length_append]
      have := decN_short k (n / 10) (by rw [Nat.pow_succ] at h; omega)
      simp; omega
def padN (k n : Nat) : List UInt8 := List.replicate (k - (decN n).length) 48 ++ decN n
theorem padN_len {k n : Nat} (h : (decN n).length <= k) : (padN k n).length = k := by
  unfold padN; rw [List.length_append, List.length_replicate]; omega
theorem padded_c (n k : Nat) (hn : n <= 1000000) (hk : (decN n).length <= k /\ k <= 1000) (w : World) : Calls Tryz.prog 178 #[.int .i64 (n : Int), .int .i64 (k : Int)] w fun e w' => e = .returned (.string (bs (padN k n))) /\ Pu w w' := by
  refine F178_calls _ _ w _ ((dec_c (n := (n : Int)) (by omega) (by omega) w).mono ?_)
  rintro e w1 ⟨rfl, hp1⟩
  rw [decI_nat]
  refine ⟨_, rfl, ?_⟩
  rw [bs_size, wrap_in (by omega) (by omega), show (k : Int) - ((decN n).length : Nat) = ((k - (decN n).length : Nat) : Int) by omega]
  refine (repeat_c 48 _ (by omega) w1).mono ?_
  rintro e w2 ⟨rfl, hp2⟩
  refine ⟨_, rfl, by rw [bs_size, List.length_replicate]; omega, ?_, hp1.trans hp2⟩
  rw [str_append, bs_list, bs_list]; rfl
theorem rPadded_c (n k : Nat) (hn : n <= 1000000) (hk : (decN n).length <= k /\ k <= 1000) (w : World) : Calls Tryz.prog 154 #[.int .i64 (n : Int), .int .i64 (k : Int)] w fun e w' => e = .returned (.string (bs (padN k n))) /\ Pu w w' := by
  refine F154_calls _ _ w _ ((written_c (n := (n : Int)) ⟨by omega, by omega⟩ w).mono ?_)
  rintro e w1 ⟨rfl, hp1⟩
  rw [decI_nat]
  refine ⟨_, rfl, loopUp (k - (decN n).length) (fun j t w' => t = bs (List.replicate j 48 ++ decN n) /\ Pu w w') ⟨rfl, hp1⟩ ?_⟩
  rintro j J t w2 hj ⟨rfl, hp⟩ hJ
  have hl : ((bs (List.replicate j 48 ++ decN n)).size) = j + (decN n).length := by rw [bs_size, List.length_append, List.length_replicate]
  refine Br.of (fun d => ⟨?_, ?_⟩) (fun d => ?_)
  · rw [hl]; show ((1 + _ : Nat) : Int) <= _; omega
  · have := dtrue d
    refine hJ _ _ (by omega) ⟨?_, hp⟩
    rw [str_append, bs_list]; rfl
  · have := dfalse d
    have : j = k - (decN n).length := by omega
    subst this
    exact ⟨rfl, hp⟩
open Classical in
noncomputable def stampB (n : Int) : List UInt8 := if n = 0 then List.replicate 8 32 else
  if h : ∃ p : Nat × Nat × Nat, IsDate p.1 p.2.1 p.2.2 /\ (dayOf p.1 p.2.1 p.2.2 : Int) = n then padN 4 h.choose.1 ++ padN 2 h.choose.2.1 ++ padN 2 h.choose.2.2 else []
theorem dayOf_pos {y m d : Nat} (h : IsDate y m d) : 1 <= dayOf y m d := by have := h.year; omega
theorem stampB_zero : stampB 0 = List.replicate 8 32 := by unfold stampB; rw [if_pos rfl]
theorem stampB_date {y m d : Nat} (h : IsDate y m d) : stampB (dayOf y m d : Nat) = padN 4 y ++ padN 2 m ++ padN 2 d := by
  have hp := dayOf_pos h
  have hx : ∃ p : Nat × Nat × Nat, IsDate p.1 p.2.1 p.2.2 /\ (dayOf p.1 p.2.1 p.2.2 : Int) = (dayOf y m d : Nat) := ⟨(y, m, d), h, rfl⟩
  unfold stampB
  rw [if_neg (by omega), dif_pos hx]
  obtain ⟨h1, h2⟩ := hx.choose_spec
  obtain ⟨e1, e2, e3⟩ := date_inj h1 h (by omega)
  rw [e1, e2, e3]
theorem date_pads {y m d : Nat} (h : IsDate y m d) : ((decN y).length <= 4 /\ y <= 1000000) /\ ((decN m).length <= 2 /\ m <= 1000000) /\ ((decN d).length <= 2 /\ d <= 1000000) := by
  obtain ⟨h1, h2, h3, h4, h5, h6⟩ := h
  have := mdays_le y m
  exact ⟨⟨decN_short 3 y (by omega), by omega⟩, ⟨decN_short 1 m (by omega), by omega⟩, ⟨decN_short 1 d (by omega), by omega⟩⟩
theorem stamp_len8 {y m d : Nat} (h : IsDate y m d) : (padN 4 y ++ padN 2 m ++ padN 2 d).length = 8 := by
  obtain ⟨a, b, c⟩ := date_pads h
  rw [List.length_append, List.length_append, padN_len a.1, padN_len b.1, padN_len c.1]
theorem stamp_c (n : Int) (h : 0 <= n /\ n <= 3652059) (w : World) : Calls Tryz.prog 156 #[.int .i64 n] w fun e w' => e = .returned (.tuple #[.string (bs (stampB n)), .int .i64 0]) /\ (stampB n).length = 8 /\ Pu w w' := by
  refine F156_calls _ w _ ((isDay_c n w).mono ?_)
  rintro e w1 ⟨rfl, hp1⟩
  rw [decide_eq_true h.1, decide_eq_true h.2]
  refine ⟨_, rfl, Br.f rfl (Br.of (fun d => ⟨?_, ?_, hp1⟩) (fun d => ?_))⟩
  · rw [btrue d, stampB_zero]; rfl
  · rw [btrue d, stampB_zero]; rfl
  have hn0 := bfalse d
  clear d
  obtain ⟨k, rfl⟩ : ∃ k : Nat, n = (k : Int) := ⟨n.toNat, by omega⟩
  refine F167_calls _ w1 _ ((split_c k (by omega) w1).mono ?_)
  rintro e w2 ⟨y, m, d, hD, rfl, rfl, hp2⟩
  obtain ⟨a, b, c⟩ := date_pads hD
  refine ⟨_, _, _, _, rfl, (padded_c y 4 a.2 ⟨a.1, by omega⟩ w2).mono ?_⟩
  rintro e w3 ⟨rfl, hp3⟩
  refine ⟨_, rfl, (padded_c m 2 b.2 ⟨b.1, by omega⟩ w3).mono ?_⟩
  rintro e w4 ⟨rfl, hp4⟩
  refine ⟨_, rfl, by rw [bs_size, bs_size, padN_len a.1, padN_len b.1]; omega, (padded_c d 2 c.2 ⟨c.1, by omega⟩ w4).mono ?_⟩
  rintro e w5 ⟨rfl, hp5⟩
  have e1 : bs (padN 4 y) ++ bs (padN 2 m) = bs (padN 4 y ++ padN 2 m) := by rw [str_append, bs_list, bs_list]
  refine ⟨_, rfl, by rw [e1, bs_size, bs_size, List.length_append, padN_len a.1, padN_len b.1, padN_len c.1]; omega, ?_⟩
  rw [e1, str_append, bs_list, bs_list, stampB_date hD]
  exact ⟨_, rfl, rfl, stamp_len8 hD, (((hp1.trans hp2).trans hp3).trans hp4).trans hp5⟩
theorem rStamp_c (n : Int) (h : 0 <= n /\ n <= 3652059) (w : World) : Calls Tryz.prog 121 #[.int .i64 n] w fun e w' => e = .returned (.tuple #[.string (bs (stampB n)), .int .i64 0]) /\ (stampB n).length = 8 /\ Pu w w' := by
  by_cases h0 : n = 0
  · subst h0
    refine F121_calls _ w _ (F153_calls _ w _ (Br.of (fun d => absurd (dtrue d) (by omega)) (fun _ => Br.of (fun d => absurd (dtrue d) (by omega)) (fun _ => Br.of (fun d => ?_) (fun d => absurd rfl (bfalse d))))))
    exact ⟨_, _, _, _, rfl, Br.f rfl (Br.t rfl ⟨by rw [stampB_zero]; rfl, by rw [stampB_zero]; rfl, Pu.refl w⟩)⟩
  obtain ⟨k, rfl⟩ : ∃ k : Nat, n = (k : Int) := ⟨n.toNat, by omega⟩
  refine F121_calls _ w _ ((rSplit_c k (by omega) w).mono ?_)
  rintro e w2 ⟨y, m, d, hD, rfl, rfl, hp2⟩
  obtain ⟨a, b, c⟩ := date_pads hD
  refine ⟨_, _, _, _, rfl, Br.f rfl (Br.of (fun d0 => absurd (btrue d0) h0) (fun _ => (rPadded_c y 4 a.2 ⟨a.1, by omega⟩ w2).mono ?_))⟩
  rintro e w3 ⟨rfl, hp3⟩
  refine ⟨_, rfl, (rPadded_c m 2 b.2 ⟨b.1, by omega⟩ w3).mono ?_⟩
  rintro e w4 ⟨rfl, hp4⟩
  refine ⟨_, rfl, by rw [bs_size, bs_size, padN_len a.1, padN_len b.1]; omega, (rPadded_c d 2 c.2 ⟨c.1, by omega⟩ w4).mono ?_⟩
  rintro e w5 ⟨rfl, hp5⟩
  have e1 : bs (padN 4 y) ++ bs (padN 2 m) = bs (padN 4 y ++ padN 2 m) := by rw [str_append, bs_list, bs_list]
  refine ⟨_, rfl, by rw [e1, bs_size, bs_size, List.length_append, padN_len a.1, padN_len b.1, padN_len c.1]; omega, ?_⟩
  rw [e1, str_append, bs_list, bs_list, stampB_date hD]
  exact ⟨rfl, stamp_len8 hD, ((hp2.trans hp3).trans hp4).trans hp5⟩
end Go.Proofs.YtecmfdfhpldmmaaGreatDoor

/- Table: what a value becomes in a field, the reference. No condition. -/
set_option maxRecDepth 100000
set_option linter.unusedVariables false
set_option linter.unusedSimpArgs false
namespace Go.Proofs.YtecmfdfhpldmmaaGreatDoor
open Go.Sh Go.RowKit
theorem bs_eq_iff (l : List UInt8) (s : ByteArray) : bs l = s ↔ l = s.data.toList := by
  constructor
  · intro h; rw [← h]
  · intro h; rw [h]
theorem isMemo_c (n : Int) (w : World) : Calls Tryz.prog 147 #[.int .i64 n] w fun e w' => e = .returned (.bool (memoN n)) /\ Pu w w' := by
  refine F147_calls _ w _ (Br.of (fun d => ?_) (fun d => ?_))
  · exact ⟨by rw [memoN, decide_eq_true (show 0 <= n from dtrue d)]; rfl, Pu.refl w⟩
  · exact ⟨by rw [memoN, decide_eq_false (show ¬ 0 <= n from dfalse d)]; rfl, Pu.refl w⟩
theorem rFits_c (f : Fld) (p : Int) (v : Val) (w : World) : Calls Tryz.prog 105 #[fldA f, .int .i64 p, valA v] w fun e w' => e = .returned (.bool (fitsV f p v)) /\ Pu w w' := by
  refine F105_calls _ _ _ _ _ _ _ _ w _ ?_
  refine alB fun w1 hp1 hb1 => alB fun w2 hp2 hb2 => ?_
  have hp02 := hp1.trans hp2
  have b1 : ∀ {wz}, Pu w2 wz -> wz.heap[w.heap.size]? = some (.cells #[.string f.name, .int .i64 f.kind, .int .i64 f.width, .bool f.null] 23) := fun h => h.blk (hp2.blk hb1)
  have b2 : ∀ {wz}, Pu w2 wz -> wz.heap[w1.heap.size]? = some (.cells #[.int .i64 v.kind, .int .i64 v.n, .string v.s] 25) := fun h => h.blk hb2
  have q0 := b2 (Pu.refl w2)
  refine ⟨_, cl q0 0, _, cl q0 1, _, cl q0 2, (rValid_c v w2).mono ?_⟩
  rintro e w3 ⟨rfl, hp3⟩
  have hp03 := hp02.trans hp3
  have out : ∀ {wz : World} {b : Bool}, Pu w wz -> fitsV f p v = b -> (Ending.returned (Value.bool b) = Ending.returned (Value.bool (fitsV f p v)) /\ Pu w wz) := fun h1 h2 => ⟨by rw [h2], h1⟩
  refine ⟨_, rfl, Br.of (fun d => out hp03 (by unfold fitsV; rw [if_pos (bntrue d)])) (fun d => ?_)⟩
  have hv := bnfalse d
  have hv0 : ¬ validV v ≠ 0 := by omega
  obtain ⟨hvs, hvn, hv4⟩ := valid_ok hv
  refine ⟨_, cl0 (b2 hp3), Br.of (fun d0 => ⟨_, cl (b1 hp3) 3, out hp03 (by unfold fitsV; rw [if_neg hv0, if_pos (btrue d0)])⟩) (fun d0 => ⟨_, cl (b1 hp3) 1, Br.of (fun d1 => ?_) (fun d1 => ?_)⟩)⟩
  · refine ⟨_, cl0 (b2 hp3), Br.of (fun d2 => ⟨_, cl (b2 hp3) 1, (isMemo_c v.n w3).mono ?_⟩) (fun d2 => out hp03 ?_)⟩
    · rintro e w4 ⟨rfl, hp4⟩
      exact ⟨_, rfl, out (hp03.trans hp4) (by unfold fitsV; rw [if_neg hv0, if_neg (bfalse d0), if_pos (btrue d1), decide_eq_true (btrue d2)]; rfl)⟩
    · unfold fitsV; rw [if_neg hv0, if_neg (bfalse d0), if_pos (btrue d1), decide_eq_false (bfalse d2)]; rfl
  have e0 : fitsV f p v = if v.kind ≠ f.kind then false else if f.kind = 2 then decide (((decI v.n).length : Int) <= f.width) else if f.kind = 4 then decide ((v.s.size : Int) <= f.width) && decide (bare v.s.data.toList = v.s.data.toList) && textB v.s.data.toList p else true := by
    unfold fitsV; rw [if_neg hv0, if_neg (bfalse d0), if_neg (bfalse d1)]
  refine ⟨_, cl0 (b2 hp3), _, cl (b1 hp3) 1, Br.of (fun d2 => out hp03 (by rw [e0, if_pos (bntrue d2)])) (fun d2 => ⟨_, cl (b1 hp3) 1, Br.of (fun d3 => ?_) (fun d3 => ⟨_, cl (b1 hp3) 1, Br.of (fun d4 => ?_) (fun d4 => out hp03 ?_)⟩)⟩)⟩
  · have d2 := bnfalse d2
    have d3 := btrue d3
    have hn : In64 v.n := by rw [d2, d3] at hvn; simp [okN] at hvn; exact ⟨by omega, by omega⟩
    refine dwE_intro fun w4 hp4 _ => ⟨fun u => Pu w4 u, Pu.refl _, v.n, fun u hu => cl (b2 ((hp3.trans hp4).trans hu)) 1, f.width, fun u hu => cl (b1 ((hp3.trans hp4).trans hu)) 2, (written_c hn w4).mono ?_⟩
    rintro e w5 ⟨rfl, hp5⟩
    refine ⟨_, rfl, hp5, out ((hp03.trans hp4).trans hp5) ?_⟩
    rw [e0, if_neg (by rw [d2]; simp), if_pos d3, bs_size]
  · have d2 := bnfalse d2
    have d3 := bfalse d3
    have d4 := btrue d4
    have e1 : fitsV f p v = (decide ((v.s.size : Int) <= f.width) && decide (bare v.s.data.toList = v.s.data.toList) && textB v.s.data.toList p) := by
      rw [e0, if_neg (by rw [d2]; simp), if_neg d3, if_pos d4]
    refine dwE_intro fun w4 hp4 _ => ⟨fun u => Pu w4 u, Pu.refl _, v.s, fun u hu => cl (b2 ((hp3.trans hp4).trans hu)) 2, f.width, fun u hu => cl (b1 ((hp3.trans hp4).trans hu)) 2, Br.of (fun d5 => ?_) (fun d5 => out (hp03.trans hp4) ?_)⟩
    · refine ⟨v.s, fun u hu => cl (b2 ((hp3.trans hp4).trans hu)) 2, v.s, fun u hu => cl (b2 ((hp3.trans hp4).trans hu)) 2, (rBare_c v.s (by omega) w4).mono ?_⟩
      rintro e w5 ⟨rfl, hp5⟩
      refine ⟨_, rfl, hp5, ?_⟩
      rw [toList_beq]
      have hbe : (bs (bare v.s.data.toList) = v.s) ↔ bare v.s.data.toList = v.s.data.toList := bs_eq_iff _ _
      refine Br.of (fun d6 => ⟨v.s, fun u hu => cl (b2 ((hp3.trans hp4).trans hu)) 2, (rWritten_c v.s (by omega) p w5).mono ?_⟩) (fun d6 => out ((hp03.trans hp4).trans hp5) ?_)
      · rintro e w6 ⟨rfl, hp6⟩
        refine ⟨_, rfl, out (((hp03.trans hp4).trans hp5).trans hp6) ?_⟩
        rw [e1, decide_eq_true (dtrue d5), decide_eq_true (hbe.1 (dtrue d6))]; rfl
      · rw [e1, decide_eq_false (fun h => dfalse d6 (hbe.2 h))]; simp
    · rw [e1, decide_eq_false (dfalse d5)]; rfl
  · rw [e0, if_neg (by rw [bnfalse d2]; simp), if_neg (bfalse d3), if_neg (bfalse d4)]
theorem rFitted_c (f : Fld) (p : Int) (v : Val) (hfB : fieldB f = true) (hvs : v.s.size <= 140737488355328) (w : World) : Calls Tryz.prog 58 #[fldA f, .int .i64 p, valA v] w fun e w' =>
    e = .returned (.tuple #[valA (fitted f p v).1, .int .i64 (fitted f p v).2]) /\ Pu w w' := by
  refine F58_calls _ _ _ _ _ _ _ _ w _ ?_
  refine alB fun w1 hp1 hb1 => alB fun w2 hp2 hb2 => alB fun w3 hp3 hb3 => ?_
  have z1 : w1.heap.size <= w2.heap.size := hp2.size
  have z0 : w.heap.size <= w1.heap.size := hp1.size
  have hp03 : Pu w w3 := (hp1.trans hp2).trans hp3
  have out : ∀ {wz : World} (v' : Val) (k : Int) {c : Array Value}, Pu w wz -> wz.heap[w2.heap.size]? = some (.cells c 25) -> c.size = 3 -> fitted f p v = (v', k) ->
      stA Tryz.prog 25 (⟨w2.heap.size, 0, none⟩ : Addr) #[.int .i64 v'.kind, .int .i64 v'.n, .string v'.s] wz fun w' => ∃ n0 : Int, w'.cell? ((⟨w2.heap.size, 0, none⟩ : Addr).add 0) = some (.int .i64 n0) /\ ∃ n1 : Int, w'.cell? ((⟨w2.heap.size, 0, none⟩ : Addr).add 1) = some (.int .i64 n1) /\
        ∃ s2 : ByteArray, w'.cell? ((⟨w2.heap.size, 0, none⟩ : Addr).add 2) = some (.string s2) /\ (Ending.returned (.tuple #[.agg #[.int .i64 n0, .int .i64 n1, .string s2], .int .i64 k]) = .returned (.tuple #[valA (fitted f p v).1, .int .i64 (fitted f p v).2]) /\ Pu w w') := fun {wz} v' k {c} h1 h2 h3 h4 =>
    retV (R := fun e w' => e = .returned (.tuple #[valA (fitted f p v).1, .int .i64 (fitted f p v).2]) /\ Pu w w') v' k h2 h3 fun w' hf => ⟨by rw [h4], h1.andNew hf fun i hi => by have hi : i = w2.heap.size := hi; omega⟩
  have b1 : ∀ {wz}, Pu w3 wz -> wz.heap[w.heap.size]? = some (.cells #[.string f.name, .int .i64 f.kind, .int .i64 f.width, .bool f.null] 23) := fun h => h.blk (hp3.blk (hp2.blk hb1))
  have b2 : ∀ {wz}, Pu w3 wz -> wz.heap[w1.heap.size]? = some (.cells #[.int .i64 v.kind, .int .i64 v.n, .string v.s] 25) := fun h => h.blk (hp3.blk hb2)
  have b3 : ∀ {wz}, Pu w3 wz -> wz.heap[w2.heap.size]? = some (.cells #[.int .i64 0, .int .i64 0, .string ⟨#[]⟩] 25) := fun h => h.blk hb3
  have q1 := b1 (Pu.refl w3)
  have q2 := b2 (Pu.refl w3)
  have q3 := b3 (Pu.refl w3)
  refine ⟨_, cl0 q2, Br.of (fun d0 => ⟨_, cl q1 3, Br.of (fun d1 => out noV 7 hp03 q3 rfl ?_) (fun d1 => ⟨_, cl q2 0, _, cl q2 1, _, cl q2 2, out v 0 hp03 q3 rfl ?_⟩)⟩) (fun d0 => ⟨_, cl q1 1, ?_⟩)⟩
  · unfold fitted; rw [if_pos (btrue d0), show f.null = false by simpa using d1]; rfl
  · unfold fitted; rw [if_pos (btrue d0), show f.null = true by simpa using d1]; rfl
  have d0 := bfalse d0
  -- behind the question for the kind
  have rest : v.kind = (emptyV f).kind -> ∀ (m : Int), f.kind = m ->
      Br (m == 4) (∃ s31 : ByteArray, w3.cell? ((⟨w1.heap.size, 0, none⟩ : Addr).add 2) = some (.string s31) /\ ∃ s33 : ByteArray, w3.cell? ((⟨w1.heap.size, 0, none⟩ : Addr).add 2) = some (.string s33) /\ ∃ n36 : Int, w3.cell? ((⟨w.heap.size, 0, none⟩ : Addr).add 2) = some (.int .i64 n36) /\
        ∃ n37 : Int, ∃ w10 : World, (Builtin.min_ #[3, 3] 3 #[.int .i64 ((s33.size : Nat) : Int), .int .i64 n36]).run Tryz.prog w3 = .ok (.int .i64 n37) w10 /\ 0 <= n37 /\ n37.toNat <= s31.size /\ 0 <= n37.toNat /\
        Calls Tryz.prog 103 #[.string (s31.extract 0 n37.toNat)] w10 fun e w11 => ∃ s39 : ByteArray, e = .returned (.string s39) /\ Calls Tryz.prog 104 #[.string s39, .int .i64 p] w11 fun e w12 => ∃ b42 : Bool, e = .returned (.bool b42) /\
        Br (!b42) (stA Tryz.prog 25 (⟨w2.heap.size, 0, none⟩ : Addr) #[.int .i64 0, .int .i64 0, .string (⟨#[]⟩ : ByteArray)] w12 fun w13 => ∃ nR0_0 : Int, w13.cell? ((⟨w2.heap.size, 0, none⟩ : Addr).add 0) = some (.int .i64 nR0_0) /\ ∃ nR0_1 : Int, w13.cell? ((⟨w2.heap.size, 0, none⟩ : Addr).add 1) = some (.int .i64 nR0_1) /\ ∃ sR0_2 : ByteArray, w13.cell? ((⟨w2.heap.size, 0, none⟩ : Addr).add 2) = some (.string sR0_2) /\
            (Ending.returned (.tuple #[.agg #[.int .i64 nR0_0, .int .i64 nR0_1, .string sR0_2], .int .i64 10]) = .returned (.tuple #[valA (fitted f p v).1, .int .i64 (fitted f p v).2]) /\ Pu w w13)) (
          Calls Tryz.prog 46 #[.string s39] w12 fun e w15 => ∃ n46_0 : Int, ∃ n46_1 : Int, ∃ s46_2 : ByteArray, e = .returned (.agg #[.int .i64 n46_0, .int .i64 n46_1, .string s46_2]) /\
          stA Tryz.prog 25 (⟨w2.heap.size, 0, none⟩ : Addr) #[.int .i64 n46_0, .int .i64 n46_1, .string s46_2] w15 fun w16 => ∃ nR0_0 : Int, w16.cell? ((⟨w2.heap.size, 0, none⟩ : Addr).add 0) = some (.int .i64 nR0_0) /\ ∃ nR0_1 : Int, w16.cell? ((⟨w2.heap.size, 0, none⟩ : Addr).add 1) = some (.int .i64 nR0_1) /\ ∃ sR0_2 : ByteArray, w16.cell? ((⟨w2.heap.size, 0, none⟩ : Addr).add 2) = some (.string sR0_2) /\
            (Ending.returned (.tuple #[.agg #[.int .i64 nR0_0, .int .i64 nR0_1, .string sR0_2], .int .i64 0]) = .returned (.tuple #[valA (fitted f p v).1, .int .i64 (fitted f p v).2]) /\ Pu w w16))) (
        ∃ s47_0 : ByteArray, w3.cell? ((⟨w.heap.size, 0, none⟩ : Addr).add 0) = some (.string s47_0) /\ ∃ n47_1 : Int, w3.cell? ((⟨w.heap.size, 0, none⟩ : Addr).add 1) = some (.int .i64 n47_1) /\ ∃ n47_2 : Int, w3.cell? ((⟨w.heap.size, 0, none⟩ : Addr).add 2) = some (.int .i64 n47_2) /\ ∃ b47_3 : Bool, w3.cell? ((⟨w.heap.size, 0, none⟩ : Addr).add 3) = some (.bool b47_3) /\
        ∃ n49_0 : Int, w3.cell? ((⟨w1.heap.size, 0, none⟩ : Addr).add 0) = some (.int .i64 n49_0) /\ ∃ n49_1 : Int, w3.cell? ((⟨w1.heap.size, 0, none⟩ : Addr).add 1) = some (.int .i64 n49_1) /\ ∃ s49_2 : ByteArray, w3.cell? ((⟨w1.heap.size, 0, none⟩ : Addr).add 2) = some (.string s49_2) /\
        Calls Tryz.prog 105 #[.agg #[.string s47_0, .int .i64 n47_1, .int .i64 n47_2, .bool b47_3], .int .i64 p, .agg #[.int .i64 n49_0, .int .i64 n49_1, .string s49_2]] w3 fun e w18 => ∃ b50 : Bool, e = .returned (.bool b50) /\
        Br (!b50) (stA Tryz.prog 25 (⟨w2.heap.size, 0, none⟩ : Addr) #[.int .i64 0, .int .i64 0, .string (⟨#[]⟩ : ByteArray)] w18 fun w13 => ∃ nR0_0 : Int, w13.cell? ((⟨w2.heap.size, 0, none⟩ : Addr).add 0) = some (.int .i64 nR0_0) /\ ∃ nR0_1 : Int, w13.cell? ((⟨w2.heap.size, 0, none⟩ : Addr).add 1) = some (.int .i64 nR0_1) /\ ∃ sR0_2 : ByteArray, w13.cell? ((⟨w2.heap.size, 0, none⟩ : Addr).add 2) = some (.string sR0_2) /\
            (Ending.returned (.tuple #[.agg #[.int .i64 nR0_0, .int .i64 nR0_1, .string sR0_2], .int .i64 10]) = .returned (.tuple #[valA (fitted f p v).1, .int .i64 (fitted f p v).2]) /\ Pu w w13)) (
          ∃ n53_0 : Int, w18.cell? ((⟨w1.heap.size, 0, none⟩ : Addr).add 0) = some (.int .i64 n53_0) /\ ∃ n53_1 : Int, w18.cell? ((⟨w1.heap.size, 0, none⟩ : Addr).add 1) = some (.int .i64 n53_1) /\ ∃ s53_2 : ByteArray, w18.cell? ((⟨w1.heap.size, 0, none⟩ : Addr).add 2) = some (.string s53_2) /\
          stA Tryz.prog 25 (⟨w2.heap.size, 0, none⟩ : Addr) #[.int .i64 n53_0, .int .i64 n53_1, .string s53_2] w18 fun w16 => ∃ nR0_0 : Int, w16.cell? ((⟨w2.heap.size, 0, none⟩ : Addr).add 0) = some (.int .i64 nR0_0) /\ ∃ nR0_1 : Int, w16.cell? ((⟨w2.heap.size, 0, none⟩ : Addr).add 1) = some (.int .i64 nR0_1) /\ ∃ sR0_2 : ByteArray, w16.cell? ((⟨w2.heap.size, 0, none⟩ : Addr).add 2) = some (.string sR0_2) /\
            (Ending.returned (.tuple #[.agg #[.int .i64 nR0_0, .int .i64 nR0_1, .string sR0_2], .int .i64 0]) = .returned (.tuple #[valA (fitted f p v).1, .int .i64 (fitted f p v).2]) /\ Pu w w16))) := by
    rintro hk m rfl
    have hF : fitted f p v = if f.kind = 4 then (if textB (bare (v.s.data.toList.take f.width.toNat)) p then (⟨4, 0, bs (bare (v.s.data.toList.take f.width.toNat))⟩, 0) else (noV, 10)) else if fitsV f p v then (v, 0) else (noV, 10) := by
      unfold fitted; rw [if_neg d0, if_neg (by rw [hk]; simp)]
    refine Br.of (fun d2 => ?_) (fun d2 => ?_)
    · have d2 := btrue d2
      obtain ⟨wl, wh⟩ := fld_text hfB d2
      rw [if_pos d2] at hF
      refine ⟨_, cl q2 2, _, cl q2 2, _, cl q1 2, _, w3, min_run _ _ _ _ _ _, by omega, by omega, by omega, (rBare_c _ (by have := extract_list v.s 0 (min (v.s.size : Int) f.width).toNat; have := size_list (v.s.extract 0 (min (v.s.size : Int) f.width).toNat); simp at *; omega) w3).mono ?_⟩
      rintro e w9 ⟨rfl, hp9⟩
      have et : (v.s.extract 0 (min (v.s.size : Int) f.width).toNat).data.toList = v.s.data.toList.take f.width.toNat := by
        rw [extract_list, List.drop_zero]; exact take_min _ _ _ (by simp) (by omega)
      rw [et]
      have hbl : (bs (bare (v.s.data.toList.take f.width.toNat))).size <= 140737488355328 := by
        rw [bs_size]; have := bare_le (v.s.data.toList.take f.width.toNat); have := List.length_take_le' f.width.toNat v.s.data.toList; rw [size_list] at this; omega
      generalize hg : bare (v.s.data.toList.take f.width.toNat) = B at *
      refine ⟨_, rfl, (rWritten_c _ hbl p w9).mono ?_⟩
      rintro e w10 ⟨rfl, hp10⟩
      rw [bs_list]
      have hp310 := hp9.trans hp10
      refine ⟨_, rfl, Br.of (fun d3 => out noV 10 (hp03.trans hp310) (b3 hp310) rfl ?_) (fun d3 => (rText_c (bs B) w10).mono ?_)⟩
      · rw [hF, show textB B p = false by simpa using d3]; rfl
      · rintro e w11 ⟨rfl, hp11⟩
        refine ⟨_, _, _, rfl, out ⟨4, 0, bs B⟩ 0 (hp03.trans (hp310.trans hp11)) (b3 (hp310.trans hp11)) rfl ?_⟩
        rw [hF, show textB B p = true by simpa using d3]; rfl
    · have d2 := bfalse d2
      rw [if_neg d2] at hF
      refine ⟨_, cl q1 0, _, cl q1 1, _, cl q1 2, _, cl q1 3, _, cl q2 0, _, cl q2 1, _, cl q2 2, (rFits_c f p v w3).mono ?_⟩
      rintro e w9 ⟨rfl, hp9⟩
      refine ⟨_, rfl, Br.of (fun d3 => out noV 10 (hp03.trans hp9) (b3 hp9) rfl ?_) (fun d3 => ⟨_, cl (b2 hp9) 0, _, cl (b2 hp9) 1, _, cl (b2 hp9) 2, out v 0 (hp03.trans hp9) (b3 hp9) rfl ?_⟩)⟩
      · rw [hF, show fitsV f p v = false by simpa using d3]; rfl
      · rw [hF, show fitsV f p v = true by simpa using d3]; rfl
  have six : v.kind ≠ (emptyV f).kind -> fitted f p v = (noV, 6) := fun h => by unfold fitted; rw [if_neg d0, if_pos h]
  refine Br.of (fun d1 => ⟨_, cl0 q2, Br.of (fun d2 => out noV 6 hp03 q3 rfl (six ?_)) (fun d2 => ⟨_, cl q1 1, rest ?_ _ rfl⟩)⟩) (fun d1 => ⟨_, cl0 q2, Br.of (fun d2 => out noV 6 hp03 q3 rfl (six ?_)) (fun d2 => ⟨_, cl q1 1, rest ?_ _ rfl⟩)⟩)
  · unfold emptyV; rw [if_pos (btrue d1)]; exact bntrue d2
  · unfold emptyV; rw [if_pos (btrue d1)]; exact bnfalse d2
  · unfold emptyV; rw [if_neg (bfalse d1)]; exact bntrue d2
  · unfold emptyV; rw [if_neg (bfalse d1)]; exact bnfalse d2
end Go.Proofs.YtecmfdfhpldmmaaGreatDoor

/- Table: rows of fields: which are right, and how wide they are. No condition. -/
set_option maxRecDepth 100000
set_option linter.unusedVariables false
set_option linter.unusedSimpArgs false
namespace Go.Proofs.YtecmfdfhpldmmaaGreatDoor
open Go.Sh Go.RowKit
theorem nodup_snoc {α : Type} [DecidableEq α] {l : List α} {x : α} : (l ++ [x]).Nodup ↔ l.Nodup /\ x ∉ l := by
  rw [List.nodup_append]
  constructor
  · rintro ⟨h1, _, h3⟩; exact ⟨h1, fun hx => h3 x hx x (by simp) rfl⟩
  · rintro ⟨h1, h2⟩; exact ⟨h1, by simp, fun a ha b hb e => by simp at hb; subst hb; subst e; exact h2 ha⟩
theorem nulls_le (l : List Fld) : (nulls l : Int) <= l.length + 1 := by
  unfold nulls
  have := List.length_filter_le (·.null) l
  omega
theorem nullN_take {l : List Fld} {k : Nat} {f : Fld} (h : l[k]? = some f) : ((l.take (k + 1)).filter (·.null)).length = ((l.take k).filter (·.null)).length + (if f.null then 1 else 0) := by
  rw [take_at h, List.filter_append, List.length_append]
  cases hx : f.null <;> simp [hx]
theorem nullN_take' {l : List Fld} {k : Nat} {f : Fld} (h : l[k]? = some f) : ((l.take (k + 1)).filter (·.null)).length = if f.null then ((l.take k).filter (·.null)).length + 1 else ((l.take k).filter (·.null)).length := by
  rw [nullN_take h]; cases f.null <;> rfl
theorem nullBytes_c {w : World} {s : SV} {l : List Fld} (h : RdSl w s l) : Calls Tryz.prog 71 #[.slice s.a s.len s.cap] w fun e w' => e = .returned (.int .i64 (nulls l : Nat)) /\ Pu w w' := by
  refine F71_calls _ w _ ?_
  have hlen := h.len
  have hlim := h.lim
  refine loopUp l.length (fun k t w' => t.2 = (k : Int) /\ t.1 = (((l.take k).filter (·.null)).length : Nat) /\ Pu w w') ⟨rfl, rfl, Pu.refl _⟩ ?_
  rintro k J ⟨t1, t2⟩ w2 hk ⟨ht2, ht1, hp⟩ hJ
  obtain rfl : t2 = (k : Int) := ht2
  obtain rfl : t1 = (((l.take k).filter (·.null)).length : Nat) := ht1
  have hle := List.length_filter_le (·.null) (l.take k)
  have hle2 := List.length_take_le k l
  dsimp only
  refine Br.of (fun d => ?_) (fun d => ?_)
  · have hk2 : k < l.length := by have := dtrue d; omega
    obtain ⟨f, hf⟩ := at_k hk2
    obtain ⟨a, ha, hi, _, _, _, c0, c1, c2, c3⟩ := fldAt (h.pu hp) hf
    refine ⟨a, ha, by omega, by omega, _, c0, _, c1, _, c2, _, c3, boxA rfl s23.symm rfl fun w4 hp4 hs4 hb4 => ⟨_, cl hb4 3, ?_⟩⟩
    have e := nullN_take' hf
    rw [wrap_in (n := (k : Int) + 1) (by omega) (by omega)]
    refine Br.of (fun d1 => hJ _ _ hk2 ⟨by dsimp only; omega, ?_, hp.trans hp4⟩) (fun d1 => hJ _ _ hk2 ⟨by dsimp only; omega, ?_, hp.trans hp4⟩)
    · rw [if_pos d1] at e; dsimp only; rw [e, wrap_in (by omega) (by omega)]; omega
    · rw [if_neg (by rw [d1]; simp)] at e; dsimp only; rw [e]
  · have hk2 : k = l.length := by have := dfalse d; omega
    subst hk2
    rw [List.take_length] at *
    refine ⟨rfl, by omega, ?_, hp⟩
    rw [wrap_in (n := ((l.filter (·.null)).length : Int) + 7) (by omega) (by omega), Int.tdiv_eq_ediv_of_nonneg (by omega), wrap_in (by omega) (by omega)]
    unfold nulls; congr 2
theorem rNulls_c {w : World} {s : SV} {l : List Fld} (h : RdSl w s l) : Calls Tryz.prog 72 #[.slice s.a s.len s.cap] w fun e w' => e = .returned (.int .i64 (nulls l : Nat)) /\ Pu w w' := by
  refine F72_calls _ w _ ?_
  have hlen := h.len
  have hlim := h.lim
  refine loopUp l.length (fun k t w' => t.2 = (k : Int) /\ t.1 = (((l.take k).filter (·.null)).length : Nat) /\ Pu w w') ⟨rfl, rfl, Pu.refl _⟩ ?_
  rintro k J ⟨t1, t2⟩ w2 hk ⟨ht2, ht1, hp⟩ hJ
  obtain rfl : t2 = (k : Int) := ht2
  obtain rfl : t1 = (((l.take k).filter (·.null)).length : Nat) := ht1
  have hle := List.length_filter_le (·.null) (l.take k)
  have hle2 := List.length_take_le k l
  dsimp only
  refine Br.of (fun d => ?_) (fun d => ?_)
  · have hk2 : k < l.length := by have := dtrue d; omega
    obtain ⟨f, hf⟩ := at_k hk2
    obtain ⟨a, ha, hi, _, _, _, c0, c1, c2, c3⟩ := fldAt (h.pu hp) hf
    refine ⟨a, ha, by omega, by omega, _, c3, ?_⟩
    have e := nullN_take' hf
    rw [wrap_in (n := (k : Int) + 1) (by omega) (by omega)]
    refine Br.of (fun d1 => hJ _ _ hk2 ⟨by dsimp only; omega, ?_, hp⟩) (fun d1 => hJ _ _ hk2 ⟨by dsimp only; omega, ?_, hp⟩)
    · rw [if_pos d1] at e; dsimp only; rw [e, wrap_in (by omega) (by omega)]; omega
    · rw [if_neg (by rw [d1]; simp)] at e; dsimp only; rw [e]
  · have hk2 : k = l.length := by have := dfalse d; omega
    subst hk2
    rw [List.take_length] at *
    refine ⟨rfl, by omega, ?_, hp⟩
    rw [wrap_in (n := ((l.filter (·.null)).length : Int) + 7) (by omega) (by omega), Int.tdiv_eq_ediv_of_nonneg (by omega), wrap_in (by omega) (by omega)]
    unfold nulls; congr 2
def WOk (l : List Fld) : Prop := ∀ f ∈ l, 0 <= f.width /\ f.width <= 254
theorem field_width {f : Fld} (h : fieldB f = true) : 1 <= f.width /\ f.width <= 254 := by
  unfold fieldB kindW at h
  simp only [Bool.and_eq_true] at h
  have h := h.2
  split at h
  · simp at h; omega
  · split at h
    · simp at h; omega
    · split at h
      · simp at h; omega
      · split at h
        · simp at h; omega
        · split at h
          · simp at h; omega
          · simp at h
theorem WOk.of {l : List Fld} (h : l.all fieldB = true) : WOk l := fun f hf => by have := field_width (List.all_eq_true.1 h f hf); omega
theorem sum_take {l : List Fld} {k : Nat} {f : Fld} (h : l[k]? = some f) : ((l.take (k + 1)).map (·.width)).sum = ((l.take k).map (·.width)).sum + f.width := by
  rw [take_at h, List.map_append, List.sum_append]; simp
theorem sum_le {l : List Fld} (h : WOk l) : 0 <= (l.map (·.width)).sum /\ (l.map (·.width)).sum <= 254 * l.length := by
  induction l with
  | nil => simp
  | cons f l ih =>
    have h1 := h f (by simp)
    have h2 := ih fun g hg => h g (by simp [hg])
    simp only [List.map_cons, List.sum_cons, List.length_cons]; omega
theorem WOk.take {l : List Fld} (h : WOk l) (k : Nat) : WOk (l.take k) := fun f hf => h f (List.mem_of_mem_take hf)
theorem length_c {w : World} {s : SV} {l : List Fld} (h : RdSl w s l) (hw : WOk l) : Calls Tryz.prog 69 #[.slice s.a s.len s.cap] w fun e w' => e = .returned (.int .i64 (wide l)) /\ Pu w w' := by
  refine F69_calls _ w _ ((nullBytes_c h).mono ?_)
  rintro e w1 ⟨rfl, hp1⟩
  have hlen := h.len
  have hlim := h.lim
  have hn := nulls_le l
  refine ⟨_, rfl, ?_⟩
  rw [wrap_in (by omega) (by omega)]
  refine loopUp l.length (fun k t w' => t.2 = (k : Int) /\ t.1 = 1 + ((nulls l : Nat) : Int) + ((l.take k).map (·.width)).sum /\ Pu w w') ⟨rfl, by simp, hp1⟩ ?_
  rintro k J ⟨t1, t2⟩ w2 hk ⟨ht2, ht1, hp⟩ hJ
  obtain rfl : t2 = (k : Int) := ht2
  obtain rfl : t1 = 1 + ((nulls l : Nat) : Int) + ((l.take k).map (·.width)).sum := ht1
  have hs := sum_le (hw.take k)
  have hle2 := List.length_take_le k l
  dsimp only
  refine Br.of (fun d => ?_) (fun d => ?_)
  · have hk2 : k < l.length := by have := dtrue d; omega
    obtain ⟨f, hf⟩ := at_k hk2
    have hwf := hw f (List.mem_of_getElem? hf)
    obtain ⟨a, ha, hi, _, _, _, c0, c1, c2, c3⟩ := fldAt (h.pu hp) hf
    refine ⟨a, ha, by omega, by omega, _, c0, _, c1, _, c2, _, c3, boxA rfl s23.symm rfl fun w4 hp4 hs4 hb4 => ⟨_, cl hb4 2, ?_⟩⟩
    rw [wrap_in (n := (k : Int) + 1) (by omega) (by omega), wrap_in (by omega) (by omega)]
    refine hJ _ _ hk2 ⟨by dsimp only; omega, ?_, hp.trans hp4⟩
    dsimp only; rw [sum_take hf]; omega
  · have hk2 : k = l.length := by have := dfalse d; omega
    subst hk2
    rw [List.take_length]
    exact ⟨rfl, hp⟩
theorem rWide_c {w : World} {s : SV} {l : List Fld} (h : RdSl w s l) (hw : WOk l) : Calls Tryz.prog 70 #[.slice s.a s.len s.cap] w fun e w' => e = .returned (.int .i64 (wide l)) /\ Pu w w' := by
  refine F70_calls _ w _ ((rNulls_c h).mono ?_)
  rintro e w1 ⟨rfl, hp1⟩
  have hlen := h.len
  have hlim := h.lim
  have hn := nulls_le l
  refine ⟨_, rfl, ?_⟩
  rw [wrap_in (by omega) (by omega)]
  refine loopUp l.length (fun k t w' => t.2 = (k : Int) /\ t.1 = 1 + ((nulls l : Nat) : Int) + ((l.take k).map (·.width)).sum /\ Pu w w') ⟨rfl, by simp, hp1⟩ ?_
  rintro k J ⟨t1, t2⟩ w2 hk ⟨ht2, ht1, hp⟩ hJ
  obtain rfl : t2 = (k : Int) := ht2
  obtain rfl : t1 = 1 + ((nulls l : Nat) : Int) + ((l.take k).map (·.width)).sum := ht1
  have hs := sum_le (hw.take k)
  have hle2 := List.length_take_le k l
  dsimp only
  refine Br.of (fun d => ?_) (fun d => ?_)
  · have hk2 : k < l.length := by have := dtrue d; omega
    obtain ⟨f, hf⟩ := at_k hk2
    have hwf := hw f (List.mem_of_getElem? hf)
    obtain ⟨a, ha, hi, _, _, _, c0, c1, c2, c3⟩ := fldAt (h.pu hp) hf
    refine ⟨a, ha, by omega, by omega, _, c2, ?_⟩
    rw [wrap_in (n := (k : Int) + 1) (by omega) (by omega), wrap_in (by omega) (by omega)]
    refine hJ _ _ hk2 ⟨by dsimp only; omega, ?_, hp⟩
    dsimp only; rw [sum_take hf]; omega
  · have hk2 : k = l.length := by have := dfalse d; omega
    subst hk2
    rw [List.take_length]
    exact ⟨rfl, hp⟩
def TellsF (l : List Fld) (g : Nat) (cap : Array Value) (p : Fld -> Bool) (w0 : World) : Prop := hasBody Tryz.prog g = true /\ ∀ f ∈ l, ∀ w, Pu w0 w -> Calls Tryz.prog g (#[fldA f] ++ cap) w fun e w' => e = .returned (.bool (p f)) /\ Pu w w'
theorem findIdx_take {p : Fld -> Bool} {l : List Fld} {k : Nat} (h : ∀ f ∈ l.take k, p f = false) {f : Fld} (hf : l[k]? = some f) (hp : p f = true) : l.findIdx? p = some k := by
  have hk : k < l.length := (List.getElem?_eq_some_iff.1 hf).1
  rw [List.findIdx?_eq_some_iff_getElem]
  refine ⟨hk, ?_, fun j hj => ?_⟩
  · rw [List.getElem?_eq_getElem hk] at hf; rw [Option.some.inj hf]; exact hp
  · have := h l[j] (by rw [List.mem_take_iff_getElem]; exact ⟨j, by omega, rfl⟩)
    simpa using this
theorem indexFunc_c {w : World} {s : SV} {l : List Fld} (h : RdSl w s l) {g : Nat} {cap : Array Value} {p : Fld -> Bool} (hg : TellsF l g cap p w) : Calls Tryz.prog 66 #[.slice s.a s.len s.cap, .func (.func g) #[] cap] w
    fun e w' => e = .returned (.int .i64 (match l.findIdx? p with | some k => (k : Int) | none => -1)) /\ Pu w w' := by
  refine F66_calls _ _ w _ ?_
  have hlen := h.len
  have hlim := h.lim
  refine loopUp l.length (fun k t w' => t = (k : Int) /\ (∀ f ∈ l.take k, p f = false) /\ Pu w w') ⟨rfl, by simp, Pu.refl _⟩ ?_
  rintro k J t w2 hk ⟨ht, hno, hp⟩ hJ
  obtain rfl : t = (k : Int) := ht
  refine Br.of (fun d => ?_) (fun d => ?_)
  · have hk2 : k < l.length := by have := dtrue d; omega
    obtain ⟨f, hf⟩ := at_k hk2
    obtain ⟨a, ha, hi, _, _, _, c0, c1, c2, c3⟩ := fldAt (h.pu hp) hf
    refine ⟨a, ha, by omega, by omega, _, c0, _, c1, _, c2, _, c3, hg.1, ?_⟩
    have e1 : ((#[] : Array Value).toList ++ (([fldA f] : List Value) ++ cap.toList)).toArray = #[fldA f] ++ cap := by
      apply Array.ext'; simp
    rw [e1]
    refine (hg.2 f (List.mem_of_getElem? hf) w2 hp).mono ?_
    rintro e w3 ⟨rfl, hp3⟩
    refine ⟨_, rfl, Br.of (fun d1 => ⟨by rw [findIdx_take hno hf d1], hp.trans hp3⟩) (fun d1 => ?_)⟩
    rw [wrap_in (by omega) (by omega)]
    refine hJ _ _ hk2 ⟨by omega, fun f' hf' => ?_, hp.trans hp3⟩
    rw [take_at hf, List.mem_append, List.mem_singleton] at hf'
    rcases hf' with hf' | rfl
    · exact hno f' hf'
    · exact d1
  · have hk2 : k = l.length := by have := dfalse d; omega
    subst hk2
    rw [List.take_length] at hno
    have : l.findIdx? p = none := by rw [List.findIdx?_eq_none_iff]; exact fun x hx => by rw [hno x hx]
    exact ⟨by rw [this], hp⟩
theorem containsFunc_c {w : World} {s : SV} {l : List Fld} (h : RdSl w s l) {g : Nat} {cap : Array Value} {p : Fld -> Bool} (hg : TellsF l g cap p w) : Calls Tryz.prog 75 #[.slice s.a s.len s.cap, .func (.func g) #[] cap] w
    fun e w' => e = .returned (.bool (l.any p)) /\ Pu w w' := by
  refine F75_calls _ _ w _ ((indexFunc_c h hg).mono ?_)
  rintro e w2 ⟨rfl, hp⟩
  refine ⟨_, rfl, ?_, hp⟩
  cases hx : l.findIdx? p with
  | none =>
    rw [List.findIdx?_eq_none_iff] at hx
    have : l.any p = false := by rw [List.any_eq_false]; exact fun x hx' => by rw [hx x hx']; simp
    rw [this]; rfl
  | some k =>
    rw [List.findIdx?_eq_some_iff_getElem] at hx
    obtain ⟨h1, h2, _⟩ := hx
    have : l.any p = true := List.any_eq_true.2 ⟨_, List.getElem_mem h1, h2⟩
    rw [this]
    dsimp only
    rw [decide_eq_true (by omega)]
theorem notField_c (f : Fld) (hs : f.name.size <= 140737488355328) (w : World) : Calls Tryz.prog 76 #[fldA f] w fun e w' => e = .returned (.bool (!fieldB f)) /\ Pu w w' := by
  refine F76_calls _ _ _ _ w _ (alB fun w1 hp1 hb1 => ⟨_, cl hb1 0, _, cl hb1 1, _, cl hb1 2, _, cl hb1 3, (isField_c f hs w1).mono ?_⟩)
  rintro e w2 ⟨rfl, hp2⟩
  exact ⟨_, rfl, rfl, hp1.trans hp2⟩
theorem u88 : Tryz.prog.underlying 88 = some (.map 9 4) := by kernel_rfl
abbrev strK (s : ByteArray) : Value := .string s
abbrev boolK (b : Bool) : Value := .bool b
theorem keysS : Keys Tryz.prog 9 strK := keys_str (by kernel_rfl)
theorem z4 (w : World) : (zeroValue 4).run Tryz.prog w = .ok (.bool false) w := Tryz.zeroValue4 w
def seenL (l : List Fld) : List (ByteArray × Bool) := l.map fun f => (f.name, true)
theorem seen_fst (l : List Fld) : (seenL l).map Prod.fst = l.map (·.name) := by simp [seenL]
noncomputable instance memDec (x : ByteArray) (l : List ByteArray) : Decidable (x ∈ l) := Classical.propDecidable _
theorem seen_look (l : List Fld) (x : ByteArray) : (AL.get (seenL l) x).elim (.bool false) boolK = .bool (decide (x ∈ l.map (·.name))) := by
  by_cases h : x ∈ l.map (·.name)
  · rw [decide_eq_true h]
    cases hg : AL.get (seenL l) x with
    | none => rw [AL.get_none, seen_fst] at hg; exact absurd h hg
    | some v =>
      have := AL.get_mem hg
      simp only [seenL, List.mem_map] at this
      obtain ⟨f, _, he⟩ := this
      cases he; rfl
  · rw [decide_eq_false h, (AL.get_none).2 (by rw [seen_fst]; exact h)]; rfl
theorem validF_empty : validF [] = 1 := by unfold validF; rw [if_pos (.inl rfl)]
theorem validF_bad {l : List Fld} (h : l.all fieldB = false) : validF l = 1 := by unfold validF; rw [if_pos (.inr h)]
theorem validF_dup {l : List Fld} (h0 : l ≠ []) (h : l.all fieldB = true) (h2 : ¬ (l.map (·.name)).Nodup) : validF l = 5 := by unfold validF; rw [if_neg (by simp [h0, h]), if_pos h2]
theorem validF_end {l : List Fld} (h0 : l ≠ []) (h : l.all fieldB = true) (h2 : (l.map (·.name)).Nodup) : validF l = if 16 < l.length ∨ 2000 < wide l then 3 else 0 := by unfold validF; rw [if_neg (by simp [h0, h]), if_neg (by simp [h2])]
theorem names_take {l : List Fld} {k : Nat} {f : Fld} (h : l[k]? = some f) : (l.take (k + 1)).map (·.name) = (l.take k).map (·.name) ++ [f.name] := by
  rw [take_at h, List.map_append]; rfl
theorem nodup_of_take {l : List Fld} {k : Nat} (h : ¬ ((l.take k).map (·.name)).Nodup) : ¬ (l.map (·.name)).Nodup := fun hn => h (by
  rw [List.map_take]; exact hn.sublist (List.take_sublist _ _))
theorem validFields_c {w : World} {s : SV} {l : List Fld} (h : RdSl w s l) (hl : Lim.ok l) : Calls Tryz.prog 36 #[.slice s.a s.len s.cap] w fun e w' => e = .returned (.int .i64 (validF l)) /\ Pu w w' := by
  refine F36_calls _ w _ ?_
  have hlen := h.len
  have hlim := h.lim
  have nm : ∀ f ∈ l, f.name.size <= 140737488355328 := fun f hf => hl f hf
  refine Br.of (fun d => ?_) (fun d => ?_)
  · have : l = [] := List.length_eq_zero_iff.1 (by have := btrue d; omega)
    subst this; exact ⟨by rw [validF_empty], Pu.refl _⟩
  have h0 : l ≠ [] := fun e => by subst e; exact bfalse d (by rw [hlen]; rfl)
  have tells : TellsF l 76 #[] (fun f => !fieldB f) w := ⟨by kernel_rfl, fun f hf w2 _ => notField_c f (nm f hf) w2⟩
  refine (containsFunc_c h tells).mono ?_
  rintro e w1 ⟨rfl, hp1⟩
  have hany : l.any (fun f => !fieldB f) = !l.all fieldB := by rw [List.all_eq_not_any_not]; simp
  refine ⟨_, rfl, ?_⟩
  rw [hany]
  refine Br.of (fun d1 => ⟨by rw [validF_bad (by simpa using d1)], hp1⟩) (fun d1 => ?_)
  have hall : l.all fieldB = true := by simpa using d1
  refine alE_intro fun w2 hw2 => ?_
  have hp2 : Pu w1 w2 := by rw [hw2]; exact Pu.alloc w1 _
  have hm2 : MapAt w2 strK boolK w1.heap.size ([] : List (ByteArray × Bool)) := by rw [hw2]; exact MapAt.new w1 _ _
  have z1 := hp1.size
  refine loopUp l.length (fun k t w' => t = (k : Int) /\ MapAt w' strK boolK w1.heap.size (seenL (l.take k)) /\ ((l.take k).map (·.name)).Nodup /\ Pu w w') ⟨rfl, hm2, by simp, hp1.trans hp2⟩ ?_
  rintro k J t w3 hk ⟨ht, hm, hnd, hp⟩ hJ
  obtain rfl : t = (k : Int) := ht
  refine Br.of (fun d2 => ?_) (fun d2 => ?_)
  · have hk2 : k < l.length := by have := dtrue d2; omega
    obtain ⟨f, hf⟩ := at_k hk2
    obtain ⟨a, ha, hi, _, _, _, c0, c1, c2, c3⟩ := fldAt (h.pu hp) hf
    refine ⟨a, ha, by omega, by omega, _, c0, _, c1, _, c2, _, c3, boxA rfl s23.symm rfl fun w4 hp4 hs4 hb4 => ⟨_, cl0 hb4, decide (f.name ∈ (l.take k).map (·.name)), w4, ?_, ?_⟩⟩
    · have := (hm.pu hp4).look keysS u88 (z4 w4) f.name false
      rw [seen_look] at this; exact this
    refine Br.of (fun d3 => ⟨?_, hp.trans hp4⟩) (fun d3 => ⟨_, cl0 hb4, ?_⟩)
    · rw [validF_dup h0 hall (nodup_of_take (k := k + 1) (by rw [names_take hf, nodup_snoc]; exact fun h => h.2 (dtrue d3)))]
    · obtain ⟨w5, e5, h5, f5, _⟩ := (hm.pu hp4).upd keysS u88 f.name true
      refine ⟨w5, e5, ?_⟩
      rw [wrap_in (by omega) (by omega)]
      have hput : AL.put (seenL (l.take k)) f.name true = seenL (l.take (k + 1)) := by
        rw [AL.put_new ((AL.get_none).2 (by rw [seen_fst]; exact dfalse d3))]
        simp only [seenL]
        rw [take_at hf, List.map_append]; rfl
      rw [hput] at h5
      refine hJ _ _ hk2 ⟨by omega, h5, by rw [names_take hf, nodup_snoc]; exact ⟨hnd, dfalse d3⟩, (hp.trans hp4).andNew f5 fun i hi => by have hi : i = w1.heap.size := hi; omega⟩
  · have hk2 : k = l.length := by have := dfalse d2; omega
    subst hk2
    rw [List.take_length] at hnd
    have he := validF_end h0 hall hnd
    refine Br.of (fun d3 => ⟨by rw [he, if_pos (.inl (by have := dtrue d3; omega))], hp⟩) (fun d3 => (length_c (h.pu hp) (WOk.of hall)).mono ?_)
    rintro e w4 ⟨rfl, hp4⟩
    refine ⟨_, rfl, Br.of (fun d4 => ⟨by rw [he, if_pos (.inr (dtrue d4))], hp.trans hp4⟩) (fun d4 => ⟨by rw [he, if_neg (by have := dfalse d4; have := dfalse d3; omega)], hp.trans hp4⟩)⟩
theorem rValidFields_c {w : World} {s : SV} {l : List Fld} (h : RdSl w s l) : Calls Tryz.prog 37 #[.slice s.a s.len s.cap] w fun e w' => e = .returned (.int .i64 (validF l)) /\ Pu w w' := by
  refine F37_calls _ w _ ?_
  have hlen := h.len
  have hlim := h.lim
  refine Br.of (fun d => ?_) (fun d => ?_)
  · have : l = [] := List.length_eq_zero_iff.1 (by have := btrue d; omega)
    subst this; exact ⟨by rw [validF_empty], Pu.refl _⟩
  have h0 : l ≠ [] := fun e => by subst e; exact bfalse d (by rw [hlen]; rfl)
  refine loopUp l.length (fun k t w' => t = (k : Int) /\ (l.take k).all fieldB = true /\ Pu w w') ⟨rfl, rfl, Pu.refl _⟩ ?_
  rintro k J t w2 hk ⟨ht, hal, hp⟩ hJ
  obtain rfl : t = (k : Int) := ht
  refine Br.of (fun d1 => ?_) (fun d1 => ?_)
  · have hk2 : k < l.length := by have := dtrue d1; omega
    obtain ⟨f, hf⟩ := at_k hk2
    obtain ⟨a, ha, hi, _, _, _, c0, c1, c2, c3⟩ := fldAt (h.pu hp) hf
    refine ⟨a, ha, by omega, by omega, _, c0, _, c1, _, c2, _, c3, (rIsField_c f w2).mono ?_⟩
    rintro e w3 ⟨rfl, hp3⟩
    refine ⟨_, rfl, Br.of (fun d2 => ⟨?_, hp.trans hp3⟩) (fun d2 => ?_)⟩
    · rw [validF_bad (by rw [List.all_eq_false]; exact ⟨f, List.mem_of_getElem? hf, by simpa using d2⟩)]
    · rw [wrap_in (by omega) (by omega)]
      exact hJ _ _ hk2 ⟨by omega, by rw [all_take _ hf, hal, show fieldB f = true by simpa using d2]; rfl, hp.trans hp3⟩
  have hk2 : k = l.length := by have := dfalse d1; omega
  subst hk2
  rw [List.take_length] at hal
  clear hJ J d1
  refine loopUp l.length (fun k t w' => t = (k : Int) /\ ((l.take k).map (·.name)).Nodup /\ Pu w w') ⟨rfl, by simp, hp⟩ ?_
  rintro k J t w3 hk ⟨ht, hnd, hp⟩ hJ
  obtain rfl : t = (k : Int) := ht
  refine Br.of (fun d1 => ?_) (fun d1 => ?_)
  · have hk2 : k < l.length := by have := dtrue d1; omega
    obtain ⟨f, hf⟩ := at_k hk2
    refine loopUp k (fun j t w' => t = (j : Int) /\ f.name ∉ (l.take j).map (·.name) /\ Pu w w') ⟨rfl, by simp, hp⟩ ?_
    rintro j J2 t w4 hj ⟨ht, hno, hp4⟩ hJ2
    obtain rfl : t = (j : Int) := ht
    refine Br.of (fun d2 => ?_) (fun d2 => ?_)
    · have hj2 : j < k := by have := dtrue d2; omega
      obtain ⟨g, hg⟩ := at_k (show j < l.length by omega)
      refine dwE_intro fun w5 hp5 _ => ?_
      obtain ⟨a, ha, hi, _, _, c, c0, c1, c2, c3⟩ := fldAt (h.pu (hp4.trans hp5)) hf
      obtain ⟨a', ha', hi', _, _, c', c0', c1', c2', c3'⟩ := fldAt (h.pu (hp4.trans hp5)) hg
      refine ⟨a, ha, by omega, by omega, _, c, a', ha', by omega, by omega, _, c', ?_⟩
      rw [toList_beq]
      refine Br.of (fun d3 => ⟨?_, hp4.trans hp5⟩) (fun d3 => ?_)
      · rw [validF_dup h0 hal (nodup_of_take (k := k + 1) (by
          rw [names_take hf, nodup_snoc]
          refine fun h => h.2 ?_
          rw [dtrue d3]
          exact List.mem_map.2 ⟨g, by rw [List.mem_take_iff_getElem]; exact ⟨j, by omega, by rw [List.getElem?_eq_getElem (by omega)] at hg; exact Option.some.inj hg⟩, rfl⟩))]
      · rw [wrap_in (by omega) (by omega)]
        refine hJ2 _ _ hj2 ⟨by omega, ?_, hp4.trans hp5⟩
        rw [names_take hg, List.mem_append, List.mem_singleton]
        exact fun h => h.elim hno (dfalse d3)
    · have hj2 : j = k := by have := dfalse d2; omega
      subst hj2
      show J (IntKind.i64.wrap ((j : Int) + 1)) w4
      rw [wrap_in (by omega) (by omega)]
      exact hJ _ _ hk2 ⟨by omega, by rw [names_take hf, nodup_snoc]; exact ⟨hnd, hno⟩, hp4⟩
  · have hk2 : k = l.length := by have := dfalse d1; omega
    subst hk2
    rw [List.take_length] at hnd
    have he := validF_end h0 hal hnd
    refine Br.of (fun d3 => ⟨by rw [he, if_pos (.inl (by have := dtrue d3; omega))], hp⟩) (fun d3 => (rWide_c (h.pu hp) (WOk.of hal)).mono ?_)
    rintro e w4 ⟨rfl, hp4⟩
    refine ⟨_, rfl, Br.of (fun d4 => ⟨by rw [he, if_pos (.inr (dtrue d4))], hp.trans hp4⟩) (fun d4 => ⟨by rw [he, if_neg (by have := dfalse d4; have := dfalse d3; omega)], hp.trans hp4⟩)⟩
end Go.Proofs.YtecmfdfhpldmmaaGreatDoor

/- Table: which tables are right. No condition. -/
set_option maxRecDepth 100000
set_option linter.unusedVariables false
set_option linter.unusedSimpArgs false
namespace Go.Proofs.YtecmfdfhpldmmaaGreatDoor
open Go.Sh Go.RowKit
theorem struct25 : structB Tryz.prog 25 [some .i64, some .i64, none] = true := by kernel_rfl
theorem guard25 : Tryz.prog.eqGuardType Tryz.prog.depth 25 = false := by kernel_rfl
theorem valV_inj {a b : Val} (h : valV a = valV b) : a = b := by
  obtain ⟨a1, a2, a3⟩ := a; obtain ⟨b1, b2, b3⟩ := b
  simp [valV] at h; simp [h]
theorem eqVal (x y : Operand) (a b : Val) (w : World) : (eqS .eql 25 x y (valA a) (valA b)).run Tryz.prog w = .ok (.bool (decide (a = b))) w := by
  refine eqS_row (ks := [some .i64, some .i64, none]) (xs := valV a) (ys := valV b) struct25 guard25 rfl rfl ?_ w
  rw [decide_eq_true_iff]
  exact ⟨fun h => by rw [h], valV_inj⟩
theorem bare_fix {l : List UInt8} {w : Nat} (h : bare (l.take w) = l) : l.length <= w /\ bare l = l := by
  have h1 := bare_le (l.take w)
  rw [h] at h1
  have h2 := List.length_take_le w l
  have h3 : l.length <= w := by omega
  rw [List.take_of_length_le h3] at h
  exact ⟨h3, h⟩
theorem fitted_holds {f : Fld} {p : Int} {v : Val} (hf : fieldB f = true) (hv : validV v = 0) (hk : v.kind ≠ 0) : (decide ((fitted f p v).2 = 0) && decide ((fitted f p v).1 = v)) = fitsV f p v := by
  have hv0 : ¬ validV v ≠ 0 := by omega
  obtain ⟨hvs, hvn, hv4⟩ := valid_ok hv
  unfold fitted
  rw [if_neg hk]
  by_cases h1 : v.kind ≠ (emptyV f).kind
  · rw [if_pos h1]
    have : fitsV f p v = false := by
      unfold fitsV; rw [if_neg hv0, if_neg hk]
      by_cases h5 : f.kind = 5
      · have : v.kind ≠ 2 := by unfold emptyV at h1; rw [if_pos h5] at h1; exact h1
        rw [if_pos h5, decide_eq_false this]; rfl
      · have : v.kind ≠ f.kind := by unfold emptyV at h1; rw [if_neg h5] at h1; exact h1
        rw [if_neg h5, if_pos this]
    rw [this]; simp
  rw [if_neg h1]
  by_cases h4 : f.kind = 4
  · rw [if_pos h4]
    have hkv : v.kind = 4 := by have : v.kind = (emptyV f).kind := by simpa using h1
                                rw [this]; unfold emptyV; rw [if_neg (by omega)]; exact h4
    have hn0 : v.n = 0 := by rw [hkv] at hvn; simpa [okN] using hvn
    have hfit : fitsV f p v = (decide ((v.s.size : Int) <= f.width) && decide (bare v.s.data.toList = v.s.data.toList) && textB v.s.data.toList p) := by
      unfold fitsV; rw [if_neg hv0, if_neg hk, if_neg (by omega), if_neg (by rw [hkv, h4]; simp), if_neg (by omega), if_pos h4]
    obtain ⟨wl, wh⟩ := fld_text hf h4
    have key : (bare (v.s.data.toList.take f.width.toNat) = v.s.data.toList) ↔ ((v.s.size : Int) <= f.width /\ bare v.s.data.toList = v.s.data.toList) := by
      constructor
      · intro h; have h2 := bare_fix h; rw [size_list] at h2; exact ⟨by omega, h2.2⟩
      · rintro ⟨h2, h3⟩; rw [List.take_of_length_le (by rw [size_list]; omega)]; exact h3
    have eqv : (⟨4, 0, bs (bare (v.s.data.toList.take f.width.toNat))⟩ : Val) = v ↔ bare (v.s.data.toList.take f.width.toNat) = v.s.data.toList := by
      rw [← bs_eq_iff]
      obtain ⟨k, n, s⟩ := v
      simp only at hkv hn0
      subst hkv hn0
      simp
    have key2 : (decide ((v.s.size : Int) <= f.width) && decide (bare v.s.data.toList = v.s.data.toList)) = decide (bare (v.s.data.toList.take f.width.toNat) = v.s.data.toList) := by rw [← Bool.decide_and]; exact dec_eq key.symm
    rw [hfit, key2]
    by_cases hb : bare (v.s.data.toList.take f.width.toNat) = v.s.data.toList
    · rw [decide_eq_true hb, hb]
      cases ht : textB v.s.data.toList p
      · simp
      · rw [if_pos rfl]
        have h9 := eqv.2 hb
        rw [hb] at h9
        simp [h9]
    · rw [decide_eq_false hb]
      cases ht : textB (bare (v.s.data.toList.take f.width.toNat)) p
      · simp
      · rw [if_pos rfl]
        have h9 : ¬ (⟨4, 0, bs (bare (v.s.data.toList.take f.width.toNat))⟩ : Val) = v := fun h => hb (eqv.1 h)
        simp [h9]
  · rw [if_neg h4]
    cases hfit : fitsV f p v
    · simp
    · simp
theorem holds_c (f : Fld) (p : Int) (v : Val) (hs : f.name.size <= 140737488355328) (hf : fieldB f = true) (hpg : pageB p = true) (w : World) : Calls Tryz.prog 73 #[fldA f, .int .i64 p, valA v] w fun e w' => e = .returned (.bool (fitsV f p v)) /\ Pu w w' := by
  refine F73_calls _ _ _ _ _ _ _ _ w _ ?_
  refine alB fun w1 hp1 hb1 => alB fun w2 hp2 hb2 => ?_
  have hp02 := hp1.trans hp2
  have b1 : ∀ {wz}, Pu w2 wz -> wz.heap[w.heap.size]? = some (.cells #[.string f.name, .int .i64 f.kind, .int .i64 f.width, .bool f.null] 23) := fun h => h.blk (hp2.blk hb1)
  have b2 : ∀ {wz}, Pu w2 wz -> wz.heap[w1.heap.size]? = some (.cells #[.int .i64 v.kind, .int .i64 v.n, .string v.s] 25) := fun h => h.blk hb2
  have q1 := b1 (Pu.refl w2)
  have q2 := b2 (Pu.refl w2)
  have out : ∀ {wz : World} {b : Bool}, Pu w wz -> fitsV f p v = b -> (Ending.returned (Value.bool b) = Ending.returned (Value.bool (fitsV f p v)) /\ Pu w wz) := fun h1 h2 => ⟨by rw [h2], h1⟩
  have bad : validV v ≠ 0 -> fitsV f p v = false := fun h => by unfold fitsV; rw [if_pos h]
  refine ⟨_, cl0 q2, Br.of (fun d => ⟨_, cl q1 3, ?_⟩) (fun d => ⟨_, cl q2 0, _, cl q2 1, _, cl q2 2, (valid_c v w2).mono ?_⟩)⟩
  · have d := btrue d
    have key : (f.null && decide (v = noV)) = fitsV f p v := by
      by_cases h : validV v ≠ 0
      · rw [bad h]
        have : ¬ v = noV := fun e => h (by rw [e]; rfl)
        rw [decide_eq_false this]; simp
      · have h : validV v = 0 := by simpa using h
        obtain ⟨_, h2, h3⟩ := valid_ok h
        have hn : v.n = 0 := by rw [d] at h2; simpa [okN] using h2
        have hz : v.s.size = 0 := h3.resolve_left (by omega)
        have : v = noV := by
          obtain ⟨k, n, s⟩ := v
          simp only at d hn hz
          subst d hn
          have : s = ⟨#[]⟩ := bytes_ext (by have : s.data.toList.length = 0 := by rw [size_list]; exact hz
                                            rw [List.length_eq_zero_iff] at this; rw [this])
          subst this; rfl
        rw [decide_eq_true this]
        unfold fitsV; rw [if_neg (by omega), if_pos d]; simp
    refine Br.of (fun d1 => ⟨_, cl q2 0, _, cl q2 1, _, cl q2 2, _, w2, eqVal _ _ v noV w2, out hp02 ?_⟩) (fun d1 => out hp02 ?_)
    · rw [← key, d1]; rfl
    · rw [← key, d1]; rfl
  rintro e w3 ⟨rfl, hp3⟩
  have hp03 := hp02.trans hp3
  refine ⟨_, rfl, Br.of (fun d1 => out hp03 (bad (bntrue d1))) (fun d1 => ⟨_, cl (b1 hp3) 0, _, cl (b1 hp3) 1, _, cl (b1 hp3) 2, _, cl (b1 hp3) 3, _, cl (b2 hp3) 0, _, cl (b2 hp3) 1, _, cl (b2 hp3) 2, (fit_c f p v hs w3).mono ?_⟩)⟩
  have hv := bnfalse d1
  have hF := fitS_fitted (f := f) (p := p) (v := v) (by rw [hf, hpg]; rfl) hv
  have key := fitted_holds (f := f) (p := p) hf hv (bfalse d)
  rintro e w4 ⟨rfl, hp4⟩
  rw [hF]
  refine ⟨_, _, _, _, rfl, boxA rfl s25.symm rfl fun w5 hp5 hs5 hb5 => ?_⟩
  have hp35 := (hp3.trans hp4).trans hp5
  have hp05 := hp02.trans hp35
  refine Br.of (fun d2 => ⟨_, cl hb5 0, _, cl hb5 1, _, cl hb5 2, _, cl (b2 hp35) 0, _, cl (b2 hp35) 1, _, cl (b2 hp35) 2, _, w5, eqVal _ _ (fitted f p v).1 v w5, out hp05 ?_⟩) (fun d2 => out hp05 ?_)
  · rw [← key, decide_eq_true (btrue d2)]; rfl
  · rw [← key, decide_eq_false (bfalse d2)]; rfl
theorem zip_at {l : List Fld} {vs : List Val} {i : Nat} {f : Fld} {v : Val} (h : l[i]? = some f) (h2 : vs[i]? = some v) : (l.zip vs)[i]? = some (f, v) := by
  rw [List.getElem?_zip_eq_some]; exact ⟨h, h2⟩
def fitAll (l : List Fld) (p : Int) (vs : List Val) : Bool := (l.zip vs).all (fun x => fitsV x.1 p x.2)
theorem validR_len {l : List Fld} {p : Int} {r : Rec} (h : r.v.length ≠ l.length) : validR l p r = 10 := by unfold validR; rw [if_pos h]
theorem validR_fit {l : List Fld} {p : Int} {r : Rec} (h : r.v.length = l.length) : validR l p r = if fitAll l p r.v then 0 else 1 := by unfold validR; rw [if_neg (by simp [h])]; rfl
theorem rValidRec_c {w : World} {s t : SV} {l : List Fld} {r : Rec} (p : Int) (h : RdSl w s l) (hr : RdSl w t r.v) : Calls Tryz.prog 74 #[.slice s.a s.len s.cap, .int .i64 p, .agg #[.bool r.gone, .slice t.a t.len t.cap]] w fun e w' => e = .returned (.int .i64 (validR l p r)) /\ Pu w w' := by
  refine F74_calls _ _ _ _ w _ ?_
  refine alB fun w1 hp1 hb1 => ⟨t, cl hb1 1, ?_⟩
  have h1 := h.len
  have h2 := hr.len
  have h3 := h.lim
  refine Br.of (fun d => ⟨by rw [validR_len (by have := bntrue d; omega)], hp1⟩) (fun d => ?_)
  have hl : r.v.length = l.length := by have := bnfalse d; omega
  refine loopUp l.length (fun k u w' => u = (k : Int) /\ ((l.zip r.v).take k).all (fun x => fitsV x.1 p x.2) = true /\ Pu w1 w') ⟨rfl, rfl, Pu.refl _⟩ ?_
  rintro k J u w2 hk ⟨hu, hal, hp2⟩ hJ
  obtain rfl : u = (k : Int) := hu
  refine Br.of (fun d1 => ?_) (fun d1 => ?_)
  · have hk2 : k < l.length := by have := dtrue d1; omega
    obtain ⟨f, hf⟩ := at_k hk2
    obtain ⟨v, hv⟩ := at_k (show k < r.v.length by omega)
    refine dwE_intro fun w3 hp3 _ => ?_
    have hp13 := hp2.trans hp3
    obtain ⟨a, ha, hi, _, _, c, c0, c1, c2, c3⟩ := fldAt ((h.pu hp1).pu hp13) hf
    obtain ⟨b, hb, hbi, _, _, e0, e1, e2⟩ := valAt ((hr.pu hp1).pu hp13) hv
    refine ⟨a, ha, by omega, by omega, _, c0, _, c1, _, c2, _, c3, t, cl (hp13.blk hb1) 1, b, hb, by omega, by omega, _, e0, _, e1, _, e2, (rFits_c f p v w3).mono ?_⟩
    rintro e w4 ⟨rfl, hp4⟩
    have hz := zip_at hf hv
    refine ⟨_, rfl, Br.of (fun d2 => ⟨?_, hp1.trans (hp13.trans hp4)⟩) (fun d2 => ?_)⟩
    · have : fitAll l p r.v = false := by unfold fitAll; rw [List.all_eq_false]; exact ⟨_, List.mem_of_getElem? hz, by simpa using d2⟩
      rw [validR_fit hl, this]; rfl
    · rw [wrap_in (by omega) (by omega)]
      exact hJ _ _ hk2 ⟨by omega, by rw [all_take _ hz, hal, show fitsV f p v = true by simpa using d2]; rfl, hp13.trans hp4⟩
  · have hk2 : k = l.length := by have := dfalse d1; omega
    have : fitAll l p r.v = true := by unfold fitAll; rw [← hal, List.take_of_length_le (by rw [List.length_zip]; omega)]
    exact ⟨by rw [validR_fit hl, this]; rfl, hp1.trans hp2⟩
theorem firstBad_at {l : List Fld} {p : Int} : ∀ {rs : List Rec} {k : Nat} {r : Rec}, (∀ x ∈ rs.take k, validR l p x = 0) -> rs[k]? = some r -> validR l p r ≠ 0 -> firstBad l p rs = validR l p r
  | [], k, r, _, h, _ => by simp at h
  | x :: rs, 0, r, _, h, h2 => by simp at h; subst h; unfold firstBad; rw [if_pos h2]
  | x :: rs, k + 1, r, h0, h, h2 => by
    unfold firstBad
    rw [if_neg (by rw [h0 x (by simp)]; simp)]
    exact firstBad_at (k := k) (fun y hy => h0 y (by simp [hy])) (by simpa using h) h2
theorem firstBad_none {l : List Fld} {p : Int} : ∀ {rs : List Rec}, (∀ x ∈ rs, validR l p x = 0) -> firstBad l p rs = 0
  | [], _ => rfl
  | x :: rs, h => by unfold firstBad; rw [if_neg (by rw [h x (by simp)]; simp)]; exact firstBad_none fun y hy => h y (by simp [hy])
theorem validT_page {t : Tbl} (h : pageB t.page = false) : validT t = 1 := by unfold validT; rw [h]; rfl
theorem validT_fields {t : Tbl} (h : pageB t.page = true) (h2 : validF t.fields ≠ 0) : validT t = validF t.fields := by unfold validT; rw [h, if_pos rfl, if_pos h2]
theorem validT_many {t : Tbl} (h : pageB t.page = true) (h2 : validF t.fields = 0) (h3 : 300 < t.recs.length) : validT t = 3 := by unfold validT; rw [h, if_pos rfl, if_neg (by omega), if_pos h3]
theorem validT_recs {t : Tbl} (h : pageB t.page = true) (h2 : validF t.fields = 0) (h3 : ¬ 300 < t.recs.length) : validT t = firstBad t.fields t.page t.recs := by unfold validT; rw [h, if_pos rfl, if_neg (by omega), if_neg h3]
theorem validF_ok {l : List Fld} (h : validF l = 0) : l ≠ [] /\ l.all fieldB = true /\ (l.map (·.name)).Nodup /\ l.length <= 16 /\ wide l <= 2000 := by
  unfold validF at h
  split at h
  · omega
  · rename_i h1
    split at h
    · omega
    · rename_i h2
      split at h
      · omega
      · rename_i h3
        simp only [not_or] at h1 h3
        exact ⟨h1.1, by simpa using h1.2, by simpa using h2, by omega, by omega⟩
abbrev tblA (t : Tbl) (f r : SV) : Value := .agg #[.int .i64 t.page, .slice f.a f.len f.cap, .slice r.a r.len r.cap]
theorem rValidTbl_c {w : World} {t : Tbl} {f r : SV} (h : RdTbl w t f r) : Calls Tryz.prog 35 #[tblA t f r] w fun e w' => e = .returned (.int .i64 (validT t)) /\ Pu w w' := by
  refine F35_calls _ _ _ w _ ?_
  refine alB fun w1 hp1 hb1 => ⟨_, cl0 hb1, (rIsPage_c t.page w1).mono ?_⟩
  rintro e w2 ⟨rfl, hp2⟩
  have h1 := h.recs.len
  have h3 := h.recs.lim
  refine ⟨_, rfl, Br.of (fun d => ⟨by rw [validT_page (by simpa using d)], hp1.trans hp2⟩) (fun d => ⟨_, cl (hp2.blk hb1) 1, (rValidFields_c (h.fields.pu (hp1.trans hp2))).mono ?_⟩)⟩
  have hpg : pageB t.page = true := by simpa using d
  rintro e w3 ⟨rfl, hp3⟩
  have hp13 := hp2.trans hp3
  refine ⟨_, rfl, Br.of (fun d1 => ⟨by rw [validT_fields hpg (bntrue d1)], hp1.trans hp13⟩) (fun d1 => ⟨_, cl (hp13.blk hb1) 2, Br.of (fun d2 => ⟨by rw [validT_many hpg (bnfalse d1) (by have := dtrue d2; omega)], hp1.trans hp13⟩) (fun d2 => ?_)⟩)⟩
  have hvf := bnfalse d1
  have e0 := validT_recs hpg hvf (by have := dfalse d2; omega)
  refine loopUp t.recs.length (fun k u w' => u = (k : Int) /\ (∀ x ∈ t.recs.take k, validR t.fields t.page x = 0) /\ Pu w1 w') ⟨rfl, by simp, hp13⟩ ?_
  rintro k J u w4 hk ⟨hu, hal, hp4⟩ hJ
  obtain rfl : u = (k : Int) := hu
  refine ⟨_, cl (hp4.blk hb1) 2, Br.of (fun d3 => dwE_intro fun w5 hp5 _ => ?_) (fun d3 => ?_)⟩
  · have hk2 : k < t.recs.length := by have := dtrue d3; omega
    obtain ⟨x, hx⟩ := at_k hk2
    have hp15 := hp4.trans hp5
    obtain ⟨a, q, ha, hi, hq, c0, c1⟩ := recAt ((h.recs.pu hp1).pu hp15) hx
    refine ⟨_, cl (hp15.blk hb1) 1, _, cl0 (hp15.blk hb1), _, cl (hp15.blk hb1) 2, a, ha, by omega, by omega, _, c0, _, c1, (rValidRec_c t.page ((h.fields.pu hp1).pu hp15) hq).mono ?_⟩
    rintro e w6 ⟨rfl, hp6⟩
    refine ⟨_, rfl, Br.of (fun d4 => ⟨by rw [e0, firstBad_at hal hx (bntrue d4)], hp1.trans (hp15.trans hp6)⟩) (fun d4 => ?_)⟩
    rw [wrap_in (by omega) (by omega)]
    refine hJ _ _ hk2 ⟨by omega, fun y hy => ?_, hp15.trans hp6⟩
    rw [take_at hx, List.mem_append, List.mem_singleton] at hy
    rcases hy with hy | rfl
    · exact hal y hy
    · exact bnfalse d4
  · have hk2 : k = t.recs.length := by have := dfalse d3; omega
    subst hk2
    rw [List.take_length] at hal
    exact ⟨by rw [e0, firstBad_none hal], hp1.trans hp4⟩
theorem validTbl_c {w : World} {t : Tbl} {f r : SV} (h : RdTbl w t f r) (hl : Lim.ok t.fields) : Calls Tryz.prog 34 #[tblA t f r] w fun e w' => e = .returned (.int .i64 (validT t)) /\ Pu w w' := by
  refine F34_calls _ _ _ w _ ?_
  refine alB fun w1 hp1 hb1 => ⟨_, cl0 hb1, (isPage_c t.page w1).mono ?_⟩
  rintro e w2 ⟨rfl, hp2⟩
  have h1 := h.recs.len
  have h3 := h.recs.lim
  have h1f := h.fields.len
  have h3f := h.fields.lim
  refine ⟨_, rfl, Br.of (fun d => ⟨by rw [validT_page (by simpa using d)], hp1.trans hp2⟩) (fun d => ⟨_, cl (hp2.blk hb1) 1, (validFields_c (h.fields.pu (hp1.trans hp2)) hl).mono ?_⟩)⟩
  have hpg : pageB t.page = true := by simpa using d
  rintro e w3 ⟨rfl, hp3⟩
  have hp13 := hp2.trans hp3
  refine ⟨_, rfl, Br.of (fun d1 => ⟨by rw [validT_fields hpg (bntrue d1)], hp1.trans hp13⟩) (fun d1 => ⟨_, cl (hp13.blk hb1) 2, Br.of (fun d2 => ⟨by rw [validT_many hpg (bnfalse d1) (by have := dtrue d2; omega)], hp1.trans hp13⟩) (fun d2 => ⟨_, cl (hp13.blk hb1) 2, ?_⟩)⟩)⟩
  have hvf := bnfalse d1
  obtain ⟨_, hall, _, _, _⟩ := validF_ok hvf
  have e0 := validT_recs hpg hvf (by have := dfalse d2; omega)
  refine loopUp t.recs.length (fun k u w' => u = (k : Int) /\ (∀ x ∈ t.recs.take k, validR t.fields t.page x = 0) /\ Pu w1 w') ⟨rfl, by simp, hp13⟩ ?_
  rintro k J u w4 hk ⟨hu, hal, hp4⟩ hJ
  obtain rfl : u = (k : Int) := hu
  refine Br.of (fun d3 => ?_) (fun d3 => ?_)
  · have hk2 : k < t.recs.length := by have := dtrue d3; omega
    obtain ⟨x, hx⟩ := at_k hk2
    obtain ⟨a, q, ha, hi, hq, c0, c1⟩ := recAt ((h.recs.pu hp1).pu hp4) hx
    have next : ∀ {w6 : World}, Pu w4 w6 -> validR t.fields t.page x = 0 -> F34_2 (fun e w' => e = .returned (.int .i64 (validT t)) /\ Pu w w') J (some (⟨w.heap.size, 0, none⟩ : Addr)) r ((r.len : Nat) : Int) (k : Int) [] w6 := fun {w6} hp6 h0 => by
      show J (IntKind.i64.wrap ((k : Int) + 1)) w6
      rw [wrap_in (by omega) (by omega)]
      refine hJ _ _ hk2 ⟨by omega, fun y hy => ?_, hp4.trans hp6⟩
      rw [take_at hx, List.mem_append, List.mem_singleton] at hy
      rcases hy with hy | rfl
      · exact hal y hy
      · exact h0
    have hql := hq.len
    refine ⟨a, ha, by omega, by omega, _, c0, _, c1, boxA rfl (by kernel_rfl) rfl fun w5 hp5 hs5 hb5 => ⟨_, cl hb5 1, _, cl ((hp4.trans hp5).blk hb1) 1, Br.of (fun d4 => ?_) (fun d4 => ⟨_, cl ((hp4.trans hp5).blk hb1) 1, ?_⟩)⟩⟩
    · have : validR t.fields t.page x = 10 := validR_len (by have := bntrue d4; omega)
      exact ⟨by rw [e0, firstBad_at hal hx (by rw [this]; omega), this], hp1.trans (hp4.trans hp5)⟩
    have hlen : x.v.length = t.fields.length := by have := bnfalse d4; omega
    have hp15 := hp4.trans hp5
    refine loopUp t.fields.length (fun j u w' => u = (j : Int) /\ ((t.fields.zip x.v).take j).all (fun y => fitsV y.1 t.page y.2) = true /\ Pu w5 w') ⟨rfl, rfl, Pu.refl _⟩ ?_
    rintro j J2 u w6 hj ⟨hu, haz, hp6⟩ hJ2
    obtain rfl : u = (j : Int) := hu
    have hp16 := hp15.trans hp6
    refine Br.of (fun d5 => ?_) (fun d5 => ?_)
    · have hj2 : j < t.fields.length := by have := dtrue d5; omega
      obtain ⟨g, hg⟩ := at_k hj2
      obtain ⟨v, hv⟩ := at_k (show j < x.v.length by omega)
      obtain ⟨b, hb, hbi, _, _, c', k0, k1, k2, k3⟩ := fldAt ((h.fields.pu hp1).pu hp16) hg
      refine ⟨b, hb, by omega, by omega, _, k0, _, k1, _, k2, _, k3, boxA rfl s23.symm rfl fun w7 hp7 hs7 hb7 => dwE_intro fun w8 hp8 _ => ?_⟩
      have hp68 := hp7.trans hp8
      have hp18 := hp16.trans hp68
      have hb8 := hp8.blk hb7
      obtain ⟨m, hm, hmi, _, _, v0, v1, v2⟩ := valAt (hq.pu ((hp5.trans hp6).trans hp68)) hv
      refine ⟨_, cl hb8 0, _, cl hb8 1, _, cl hb8 2, _, cl hb8 3, _, cl0 (hp18.blk hb1), q, cl ((hp6.trans hp68).blk hb5) 1, m, hm, by omega, by omega, _, v0, _, v1, _, v2, (holds_c g t.page v (hl g (List.mem_of_getElem? hg)) (List.all_eq_true.1 hall g (List.mem_of_getElem? hg)) hpg w8).mono ?_⟩
      rintro e w9 ⟨rfl, hp9⟩
      have hz := zip_at hg hv
      refine ⟨_, rfl, Br.of (fun d6 => ?_) (fun d6 => ?_)⟩
      · have : fitAll t.fields t.page x.v = false := by unfold fitAll; rw [List.all_eq_false]; exact ⟨_, List.mem_of_getElem? hz, by simpa using d6⟩
        have h1 : validR t.fields t.page x = 1 := by rw [validR_fit hlen, this]; rfl
        exact ⟨by rw [e0, firstBad_at hal hx (by rw [h1]; omega), h1], hp1.trans (hp18.trans hp9)⟩
      · rw [wrap_in (by omega) (by omega)]
        exact hJ2 _ _ hj2 ⟨by omega, by rw [all_take _ hz, haz, show fitsV g t.page v = true by simpa using d6]; rfl, (hp6.trans hp68).trans hp9⟩
    · have hj2 : j = t.fields.length := by have := dfalse d5; omega
      have : fitAll t.fields t.page x.v = true := by unfold fitAll; rw [← haz, List.take_of_length_le (by rw [List.length_zip]; omega)]
      exact next (hp5.trans hp6) (by rw [validR_fit hlen, this]; rfl)
  · have hk2 : k = t.recs.length := by have := dfalse d3; omega
    subst hk2
    rw [List.take_length] at hal
    exact ⟨by rw [e0, firstBad_none hal], hp1.trans hp4⟩
end Go.Proofs.YtecmfdfhpldmmaaGreatDoor

/- Table: the bytes of a header. No condition. -/
set_option maxRecDepth 100000
set_option linter.unusedVariables false
set_option linter.unusedSimpArgs false
namespace Go.Proofs.YtecmfdfhpldmmaaGreatDoor
open Go.Sh Go.RowKit
def u8V (b : UInt8) : Value := .int .u8 ((b.toNat : Nat) : Int)
def byteI (n : Int) : UInt8 := UInt8.ofNat (n % 256).toNat
theorem wrap_byte (n : Int) : (Value.int .u8 (IntKind.u8.wrap n)) = u8V (byteI n) := by
  unfold u8V byteI
  rw [IntKind.wrap_u8]
  congr 1
  have : (UInt8.ofNat (n % 256).toNat).toNat = (n % 256).toNat := by simp; omega
  rw [this]; omega
theorem info5 : (Tryz.prog.info? 5).map (fun i => (i.zero, i.size, i.bytes)) = some (some (.int .u8 0), 1, 1) := by kernel_rfl
def NewRow (w0 w : World) (s : SV) (l : List UInt8) : Prop := RowAt w 5 1 s (l.map u8V) /\ ∀ b ∈ blkOf s, w0.heap.size <= b
theorem NewRow.len {w0 w : World} {s : SV} {l : List UInt8} (h : NewRow w0 w s l) : s.len = l.length := by have := h.1.1; simp at this; omega
theorem NewRow.pu {w0 w w' : World} {s : SV} {l : List UInt8} (h : NewRow w0 w s l) (hp : Pu w w') : NewRow w0 w' s l := ⟨h.1.pu hp, h.2⟩
theorem NewRow.nil (w0 w : World) : NewRow w0 w ⟨none, 0, 0⟩ [] := ⟨RowAt.nil w 5 1, by simp [blkOf]⟩
theorem NewRow.fr {B : Nat -> Prop} {w0 w w' : World} {s : SV} {l : List UInt8} (h : NewRow w0 w s l) (hf : Fr B w w') (hn : ∀ k ∈ blkOf s, ¬ B k) : NewRow w0 w' s l := ⟨h.1.fr hf hn, h.2⟩
theorem NewRow.low {w0 w1 w : World} {s : SV} {l : List UInt8} (h : NewRow w1 w s l) (hz : w0.heap.size <= w1.heap.size) : NewRow w0 w s l := ⟨h.1, fun b hb => Nat.le_trans hz (h.2 b hb)⟩
theorem NewRow.app {w0 w : World} {s m : SV} {l news : List UInt8} (h : NewRow w0 w s l) (hz : w0.heap.size <= w.heap.size) (hl : m.len = news.length) (hn : ∀ (j : Nat) (b : UInt8), news[j]? = some b -> ∃ a, m.a = some a /\ w.cell? (a.add j) = some (u8V b)) (hb : l.length + news.length <= 70368744177664) :
    ∃ (s' : SV) (w' : World), (Builtin.append_ #[37, 37] 37 #[.slice s.a s.len s.cap, .slice m.a m.len m.cap]).run Tryz.prog w = .ok (.slice s'.a s'.len s'.cap) w' /\ NewRow w0 w' s' (l ++ news) /\ Fr (· ∈ blkOf s) w w' := by
  have h1 := h.len
  obtain ⟨s', w', hr, hrow, hf, hblk, _⟩ := row_append_list (P := Tryz.prog) (ty := 37) u37 info5 rfl h.1 (m := m) (news := news.map u8V) (by simpa using hl) (fun j u hu => by
    obtain ⟨b, hb, rfl⟩ : ∃ b, news[j]? = some b /\ u8V b = u := by simpa using hu
    exact hn j b hb) (fun u hu => by simp at hu; obtain ⟨x, _, rfl⟩ := hu; rfl) (by omega)
  refine ⟨s', w', hr, ⟨by rw [List.map_append]; exact hrow, fun b hb => ?_⟩, hf⟩
  rcases hblk b hb with h2 | h2
  · exact h.2 b h2
  · omega
theorem NewRow.one {w0 w : World} {s : SV} {l : List UInt8} (h : NewRow w0 w s l) (hz : w0.heap.size <= w.heap.size) {r : Nat} {b : UInt8} {c : Array Value} (hr : w.heap[r]? = some (.cells c 5)) (hc : c[0]? = some (u8V b)) (hb : l.length <= 70368744177663) :
    ∃ (s' : SV) (w' : World), (Builtin.append_ #[37, 37] 37 #[.slice s.a s.len s.cap, .slice (some ⟨r, 0, none⟩) 1 1]).run Tryz.prog w = .ok (.slice s'.a s'.len s'.cap) w' /\ NewRow w0 w' s' (l ++ [b]) /\ Fr (· ∈ blkOf s) w w' :=
  h.app hz (m := ⟨some ⟨r, 0, none⟩, 1, 1⟩) (news := [b]) rfl (fun j b' hj => by
    cases j with
    | zero => simp at hj; subst hj; exact ⟨_, rfl, by rw [add0, cell_blk hr]; exact hc⟩
    | succ j => simp at hj) (by simp; omega)
theorem NewRow.box {w0 w : World} {r : Nat} {l : List UInt8} (hr : w.heap[r]? = some (.cells (l.map u8V).toArray 5)) (hz : w0.heap.size <= r) (hl : l.length <= 140737488355328) : NewRow w0 w ⟨some ⟨r, 0, none⟩, l.length, l.length⟩ l :=
  ⟨⟨by simp, .inr ⟨r, _, rfl, hr, Nat.le_refl _, by show l.length <= maxLen; unfold maxLen; omega, by simp, by simp [← List.map_take]⟩⟩, fun b hb => by simp [blkOf] at hb; omega⟩
theorem NewRow.cell {w0 w : World} {s : SV} {l : List UInt8} (h : NewRow w0 w s l) {j : Nat} {b : UInt8} (hj : l[j]? = some b) : ∃ a, s.a = some a /\ w.cell? (a.add j) = some (u8V b) := by
  obtain ⟨a, h1, h2, _⟩ := h.1.cell (j := j) (v := u8V b) (by rw [List.getElem?_map, hj]; rfl)
  exact ⟨a, h1, h2⟩
def lowN (n k : Nat) : List UInt8 := (List.range k).map fun j => UInt8.ofNat (n / 256 ^ j % 256)
theorem lowN_len (n k : Nat) : (lowN n k).length = k := by simp [lowN]
theorem lowN_succ (n k : Nat) : lowN n (k + 1) = lowN n k ++ [UInt8.ofNat (n / 256 ^ k % 256)] := by simp [lowN, List.range_succ]
theorem byteI_nat (n : Nat) : byteI (n : Int) = UInt8.ofNat (n % 256) := by
  unfold byteI; congr 1
theorem low_c (n k : Nat) (hk : k <= 8) (w : World) : Calls Tryz.prog 109 #[.int .i64 (n : Int), .int .i64 (k : Int)] w fun e w' => ∃ s : SV, e = .returned (.slice s.a s.len s.cap) /\ NewRow w w' s (lowN n k) /\ Pu w w' := by
  refine F109_calls _ _ w _ ?_
  refine loopUp k (fun j t w' => t.1 = ((n / 256 ^ j : Nat) : Int) /\ t.2.2 = (j : Int) /\ NewRow w w' t.2.1 (lowN n j) /\ Pu w w') ⟨by simp, rfl, NewRow.nil w w, Pu.refl _⟩ ?_
  rintro j J ⟨t1, t2, t3⟩ w2 hj ⟨h1, h3, hr, hp⟩ hJ
  obtain rfl : t1 = ((n / 256 ^ j : Nat) : Int) := h1
  obtain rfl : t3 = (j : Int) := h3
  have hr : NewRow w w2 t2 (lowN n j) := hr
  dsimp only
  refine Br.of (fun d => ?_) (fun d => ?_)
  · have hj2 : j < k := by have := dtrue d; omega
    refine alB fun w3 hp3 hb3 => ?_
    have hz : w.heap.size <= w3.heap.size := (hp.trans hp3).size
    obtain ⟨s', w4, e4, hr4, hf4⟩ := (hr.pu hp3).one hz (b := byteI ((n / 256 ^ j : Nat) : Int)) hb3 (by rw [wrap_byte]; rfl) (by rw [lowN_len]; omega)
    refine ⟨s', w4, e4, by omega, ?_⟩
    rw [wrap_in (by omega) (by omega)]
    refine hJ _ _ hj2 ⟨?_, by dsimp only; omega, ?_, (hp.trans hp3).andNew hf4 fun i hi => hr.2 i hi⟩
    · show Int.fdiv ((n / 256 ^ j : Nat) : Int) (2 ^ 8) = _
      rw [Int.fdiv_eq_ediv_of_nonneg _ (by decide), Nat.pow_succ, ← Nat.div_div_eq_div_mul]
      norm_cast
    · dsimp only; rw [lowN_succ, ← byteI_nat]; exact hr4
  · have hj2 : j = k := by have := dfalse d; omega
    subst hj2
    exact ⟨t2, rfl, hr, hp⟩
def letterB (k : Int) : UInt8 := if k = 1 then 76 else if k = 2 then 78 else if k = 3 then 68 else if k = 4 then 67 else 77
def nullB (b : Bool) : UInt8 := if b then 1 else 0
def fieldS (f : Fld) : List UInt8 := f.name.data.toList ++ List.replicate (10 - f.name.size) 0 ++ [letterB f.kind, byteI f.width, nullB f.null, 0, 0, 0]
def headS (t : Tbl) : List UInt8 := [67, byteI t.page] ++ lowN t.recs.length 4 ++ lowN (13 + 16 * t.fields.length) 2 ++ lowN (wide t.fields).toNat 2 ++ [byteI t.fields.length, 0] ++ t.fields.flatMap fieldS ++ [13]
theorem field_parts {f : Fld} (h : fieldB f = true) : 1 <= f.name.size /\ f.name.size <= 10 /\ ∃ K, kindOf5 f.kind = some K /\ K.letter = ((letterB f.kind).toNat : Nat) := by
  unfold fieldB at h
  simp only [Bool.and_eq_true] at h
  obtain ⟨hn, hk⟩ := h
  unfold nameB at hn
  simp only [Bool.and_eq_true, decide_eq_true_eq] at hn
  refine ⟨hn.1.1.1, hn.1.1.2, ?_⟩
  rcases kindOf5_cases f.kind with ⟨e, h1⟩ | ⟨e, h1⟩ | ⟨e, h1⟩ | ⟨e, h1⟩ | ⟨e, h1⟩ | ⟨h1, h2, h3, h4, h5, hh⟩
  · exact ⟨_, h1, by rw [e]; rfl⟩
  · exact ⟨_, h1, by rw [e]; rfl⟩
  · exact ⟨_, h1, by rw [e]; rfl⟩
  · exact ⟨_, h1, by rw [e]; rfl⟩
  · exact ⟨_, h1, by rw [e]; rfl⟩
  · rw [kindW_none (by rw [hh]; rfl)] at hk; cases hk
theorem fieldS_len {f : Fld} (h : f.name.size <= 10) : (fieldS f).length = 16 := by
  unfold fieldS; simp only [List.length_append, List.length_replicate, size_list, List.length_cons, List.length_nil]; omega
theorem headLen_c (n : Nat) (hn : n <= 1000000) (w : World) : Calls Tryz.prog 110 #[.int .i64 (n : Int)] w fun e w' => e = .returned (.int .i64 ((13 + 16 * n : Nat) : Int)) /\ Pu w w' := by
  refine F110_calls _ w _ ⟨?_, Pu.refl w⟩
  rw [wrap_in (n := 16 * (n : Int)) (by omega) (by omega), wrap_in (by omega) (by omega)]; norm_cast
theorem u123 : Tryz.prog.underlying 123 = some (.array 16 5) := by kernel_rfl
theorem slice123 (r : Nat) (w : World) : (Instr.sliceAt 123 (.pointer (some (⟨r, 0, none⟩ : Addr))) none (some (.int .i64 10)) (some (.int .i64 10))).run Tryz.prog w = .ok (.slice (some ⟨r, 0, none⟩) 10 10) w := by
  have hs : (sizeOf 5).run Tryz.prog w = .ok 1 w := Tryz.sizeOf5 w
  simp [Instr.sliceAt, run_under u123, Instr.sureAddr, hs, Instr.sliceBounds, Instr.sliceBound, asIntOf, Addr.add]
end Go.Proofs.YtecmfdfhpldmmaaGreatDoor
