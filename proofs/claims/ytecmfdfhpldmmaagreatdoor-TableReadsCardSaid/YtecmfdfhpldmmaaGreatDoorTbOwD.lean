import Derived.Test.YtecmfdfhpldmmaaGreatDoorTbOwC
import Derived.Test.YtecmfdfhpldmmaaGreatDoorTbPrB
import Derived.Test.YtecmfdfhpldmmaaGreatDoorTbPrC
/- Table: numbers and dates that are read from texts, by both packages. No condition. -/
set_option maxRecDepth 100000
set_option linter.unusedVariables false
set_option linter.unusedSimpArgs false
namespace Go.Proofs.YtecmfdfhpldmmaaGreatDoor
open Go.Sh Go.RowKit
def digN : Nat -> List UInt8 -> Nat
  | a, [] => a
  | a, b :: l => if digB b then digN (min (10 * a + (b.toNat - 48)) 1000000000000000) l else a
def signN : List UInt8 -> Int
  | [] => 0
  | b :: r => if b.toNat = 45 then -(digN 0 r : Int) else if b.toNat = 43 then digN 0 r else digN 0 (b :: r)
theorem signN_cons (b : UInt8) (r : List UInt8) : signN (b :: r) = if b.toNat = 45 then -(digN 0 r : Int) else if b.toNat = 43 then digN 0 r else digN 0 (b :: r) := rfl
def valS (l : List UInt8) : Int := signN (l.dropWhile (· == 32))
theorem digN_le : ∀ {l : List UInt8} {a : Nat}, a <= 1000000000000000 -> digN a l <= 1000000000000000
  | [], a, h => h
  | b :: l, a, h => by
    unfold digN
    split
    · exact digN_le (Nat.min_le_right _ _)
    · exact h
theorem valS_in (l : List UInt8) : -1000000000000000 <= valS l /\ valS l <= 1000000000000000 := by
  have h := fun r => digN_le (l := r) (a := 0) (by omega)
  unfold valS signN
  split
  · omega
  · rename_i b r _
    have h1 := h r
    have h2 := h (b :: r)
    split
    · omega
    · split <;> omega
theorem digB_in {b : UInt8} (h : digB b = true) : 48 <= b.toNat /\ b.toNat <= 57 := by
  unfold digB at h; simpa using h
theorem digB_out {b : UInt8} (h : ¬ (48 <= b.toNat /\ b.toNat <= 57)) : digB b = false := by
  unfold digB; simp; omega
theorem dig_expr {b : UInt8} (h : 48 <= b.toNat /\ b.toNat <= 57) : IntKind.i64.wrap (IntKind.u8.wrap (((b.toNat : Nat) : Int) - 48)) = ((b.toNat - 48 : Nat) : Int) := by
  have e : IntKind.u8.wrap (((b.toNat : Nat) : Int) - 48) = ((b.toNat - 48 : Nat) : Int) := by rw [IntKind.wrap_u8]; omega
  rw [e, wrap_in (by omega) (by omega)]
theorem extract1 (b : UInt8) (r : List UInt8) : (bs (b :: r)).extract ((1 : Int).toNat) (bs (b :: r)).size = bs r := by
  apply bytes_ext
  rw [extract_list, bs_list, bs_list, bs_size]
  show (List.take (b :: r).length (b :: r)).drop 1 = r
  rw [List.take_length]; rfl
theorem valLoop {w0 w : World} (hp : Pu w0 w) (l : List UInt8) {sg X : Int} (hsg : sg = 1 ∨ sg = -1) (hl : l.length <= 140737488355328) (hX : X = sg * (digN 0 l : Nat)) :
    F151_5 (fun e w' => e = .returned (.int .i64 X) /\ Pu w0 w') (bs l) sg [] w := by
  have hs := bs_size l
  have fin : ∀ {a : Nat} {w' : World}, a <= 1000000000000000 -> a = digN 0 l -> Pu w0 w' -> F151_1 (fun e w' => e = .returned (.int .i64 X) /\ Pu w0 w') sg (a : Int) [] w' := fun {a w'} h1 h2 h3 => by
    refine ⟨?_, h3⟩
    rw [hX, ← h2]
    rcases hsg with h | h
    · rw [h, wrap_in (by omega) (by omega)]
    · rw [h, wrap_in (by omega) (by omega)]
  refine loopUp l.length (fun k t w' => t.2 = (k : Int) /\ ∃ a : Nat, t.1 = (a : Int) /\ a <= 1000000000000000 /\ digN a (l.drop k) = digN 0 l /\ Pu w0 w') ⟨rfl, 0, rfl, by omega, rfl, hp⟩ ?_
  rintro k J ⟨t1, t2⟩ w2 hk ⟨h2, a, h1, ha, hd, hp2⟩ hJ
  obtain rfl : t2 = (k : Int) := h2
  obtain rfl : t1 = (a : Int) := h1
  dsimp only
  refine Br.of (fun d => ?_) (fun d => ?_)
  · have hk2 : k < l.length := by have := dtrue d; omega
    obtain ⟨b, hb⟩ := at_k hk2
    have hbb : (bs l)[((k : Int)).toNat]? = some b := byte_list (by rw [bs_list]; exact hb)
    rw [drop_at hb] at hd
    refine ⟨b, by omega, hbb, Br.of (fun d1 => ?_) (fun d1 => ⟨b, by omega, hbb, Br.of (fun d2 => ?_) (fun d2 => ⟨b, by omega, hbb, ?_⟩)⟩)⟩
    · refine fin ha ?_ hp2
      rw [digN, digB_out (by have := dtrue d1; omega)] at hd
      simpa using hd
    · refine fin ha ?_ hp2
      rw [digN, digB_out (by have := dtrue d2; omega)] at hd
      simpa using hd
    · have d1 := dfalse d1
      have d2 := dfalse d2
      have hb2 : 48 <= b.toNat /\ b.toNat <= 57 := by omega
      rw [dig_expr hb2, wrap_in (n := (a : Int) * 10) (by omega) (by omega), wrap_in (n := (a : Int) * 10 + _) (by omega) (by omega), wrap_in (n := (k : Int) + 1) (by omega) (by omega)]
      refine ⟨_, w2, min_run _ _ _ _ _ _, ?_⟩
      have e : digB b = true := by unfold digB; simp; omega
      rw [digN, e, if_pos rfl] at hd
      exact hJ _ _ hk2 ⟨by dsimp only; omega, min (10 * a + (b.toNat - 48)) 1000000000000000, by dsimp only; omega, Nat.min_le_right _ _, hd, hp2⟩
  · have hk2 : k = l.length := by have := dfalse d; omega
    subst hk2
    rw [List.drop_length] at hd
    exact fin ha hd hp2
theorem val_c (s : ByteArray) (hs : s.size <= 140737488355328) (w : World) : Calls Tryz.prog 151 #[.string s] w fun e w' => e = .returned (.int .i64 (valS s.data.toList)) /\ Pu w w' := by
  refine F151_calls _ w _ ((Any.strings_TrimLeft_one Tryz.lays161 s 32 (by decide) w).mono ?_)
  rintro e w1 ⟨rfl, rfl⟩
  have hT : Lib.trimLeftB s.data.toList 32 = s.data.toList.dropWhile (· == 32) := rfl
  rw [hT]
  have hlen : (s.data.toList.dropWhile (· == 32)).length <= s.size := by
    have := (List.dropWhile_suffix (· == (32 : UInt8)) (l := s.data.toList)).length_le
    rwa [size_list] at this
  refine ⟨_, rfl, ?_⟩
  rw [toList_nil]
  unfold valS
  cases hL : s.data.toList.dropWhile (· == 32) with
  | nil => exact Br.f (by simp [ByteArray.size]) (valLoop (Pu.refl _) [] (.inl rfl) (by simp) rfl)
  | cons b r =>
    rw [hL] at hlen
    simp only [List.length_cons] at hlen
    have h0 : (bs (b :: r))[((0 : Int)).toNat]? = some b := byte_list (by rw [bs_list]; rfl)
    refine Br.t (by rw [bs_size]; simp) ⟨b, by omega, h0, Br.of (fun d => ⟨b, by omega, h0, Br.of (fun d1 => ⟨Nat.le_refl _, by omega, by rw [bs_size]; show 1 <= _; simp, ?_⟩) (fun d1 => absurd (btrue d) (bfalse d1))⟩) (fun d => ⟨b, by omega, h0, Br.of (fun d1 => ⟨b, by omega, h0, Br.of (fun d2 => absurd (btrue d2) (bfalse d)) (fun d2 => ⟨Nat.le_refl _, by omega, by rw [bs_size]; show 1 <= _; simp, ?_⟩)⟩) (fun d1 => ?_)⟩)⟩
    · rw [extract1]
      refine valLoop (Pu.refl _) r (.inr rfl) (by omega) ?_
      rw [signN_cons, if_pos (by have := btrue d; omega)]; omega
    · rw [extract1]
      refine valLoop (Pu.refl _) r (.inl rfl) (by omega) ?_
      rw [signN_cons, if_neg (by have := bfalse d; omega), if_pos (by have := btrue d1; omega)]; omega
    · refine valLoop (Pu.refl _) (b :: r) (.inl rfl) (by simp; omega) ?_
      rw [signN_cons, if_neg (by have := bfalse d; omega), if_neg (by have := bfalse d1; omega)]; omega
theorem rValLoop {w0 w : World} (hp : Pu w0 w) (s : ByteArray) (k : Nat) (hk : k <= s.size) (hs : s.size <= 140737488355328) (neg : Bool) {X : Int} (hX : X = if neg then -(digN 0 (s.data.toList.drop k) : Int) else (digN 0 (s.data.toList.drop k) : Nat)) :
    F120_4 (fun e w' => e = .returned (.int .i64 X) /\ Pu w0 w') s (k : Int) neg 0 [] w := by
  have fin : ∀ {a : Nat} {w' : World}, a <= 1000000000000000 -> a = digN 0 (s.data.toList.drop k) -> Pu w0 w' -> F120_1 (fun e w' => e = .returned (.int .i64 X) /\ Pu w0 w') neg (a : Int) [] w' := fun {a w'} h1 h2 h3 => by
    refine Br.of (fun d => ⟨?_, h3⟩) (fun d => ⟨?_, h3⟩)
    · rw [hX, if_pos d, ← h2, wrap_in (by omega) (by omega), Int.zero_sub]
    · rw [hX, if_neg (by rw [d]; simp), ← h2]
  refine loopUp (s.size - k) (fun j t w' => t.1 = ((k + j : Nat) : Int) /\ ∃ a : Nat, t.2 = (a : Int) /\ a <= 1000000000000000 /\ digN a (s.data.toList.drop (k + j)) = digN 0 (s.data.toList.drop k) /\ Pu w0 w') ⟨rfl, 0, rfl, by omega, rfl, hp⟩ ?_
  rintro j J ⟨t1, t2⟩ w2 hj ⟨h1, a, h2, ha, hd, hp2⟩ hJ
  obtain rfl : t1 = ((k + j : Nat) : Int) := h1
  obtain rfl : t2 = (a : Int) := h2
  dsimp only
  refine Br.of (fun d => ?_) (fun d => ?_)
  · have hk2 : k + j < s.size := by have := dtrue d; omega
    obtain ⟨b, hb1, hb⟩ := at_byte hk2
    have hbb : s[(((k + j : Nat) : Int)).toNat]? = some b := hb1
    rw [drop_at hb] at hd
    refine ⟨b, by omega, hbb, (isDigit_c b w2).mono ?_⟩
    rintro e w3 ⟨rfl, hp3⟩
    refine ⟨_, rfl, Br.of (fun d1 => ⟨b, by omega, hbb, ?_⟩) (fun d1 => ?_)⟩
    · have hb2 := digB_in d1
      rw [dig_expr hb2, wrap_in (n := 10 * (a : Int)) (by omega) (by omega), wrap_in (n := 10 * (a : Int) + _) (by omega) (by omega), wrap_in (n := ((k + j : Nat) : Int) + 1) (by omega) (by omega)]
      refine ⟨_, w3, min_run _ _ _ _ _ _, ?_⟩
      rw [digN, d1, if_pos rfl] at hd
      exact hJ _ _ (by omega) ⟨by dsimp only; omega, min (10 * a + (b.toNat - 48)) 1000000000000000, by dsimp only; omega, Nat.min_le_right _ _, hd, hp2.trans hp3⟩
    · refine fin ha ?_ (hp2.trans hp3)
      rw [digN, d1] at hd
      simpa using hd
  · have hk2 : k + j = s.size := by have := dfalse d; omega
    rw [hk2, List.drop_eq_nil_of_le (by rw [size_list]; exact Nat.le_refl _)] at hd
    exact fin ha hd hp2
theorem rVal_c (s : ByteArray) (hs : s.size <= 140737488355328) (w : World) : Calls Tryz.prog 120 #[.string s] w fun e w' => e = .returned (.int .i64 (valS s.data.toList)) /\ Pu w w' := by
  refine F120_calls _ w _ (loopUp s.size (fun k t w' => t = (k : Int) /\ s.data.toList.dropWhile (· == 32) = (s.data.toList.drop k).dropWhile (· == 32) /\ Pu w w') ⟨rfl, rfl, Pu.refl w⟩ ?_)
  rintro k J t w2 hk ⟨ht, hd, hp⟩ hJ
  obtain rfl : t = (k : Int) := ht
  have tail : s.data.toList.dropWhile (· == 32) = s.data.toList.drop k -> F120_5 (fun e w' => e = .returned (.int .i64 (valS s.data.toList)) /\ Pu w w') s (k : Int) [] w2 := fun hT => by
    unfold valS
    rw [hT]
    refine Br.of (fun d => ?_) (fun d => ?_)
    · have hk2 : k < s.size := by have := dtrue d; omega
      obtain ⟨b, hb1, hb⟩ := at_byte hk2
      have hbb : s[((k : Int)).toNat]? = some b := hb1
      have hdr := drop_at hb
      refine ⟨b, by omega, hbb, Br.of (fun d1 => ⟨b, by omega, hbb, ?_⟩) (fun d1 => ⟨b, by omega, hbb, Br.of (fun d2 => ⟨b, by omega, hbb, ?_⟩) (fun d2 => ?_)⟩)⟩
      · rw [wrap_in (by omega) (by omega), show (k : Int) + 1 = ((k + 1 : Nat) : Int) by omega]
        refine rValLoop hp s (k + 1) hk2 hs _ ?_
        rw [hdr, d1, if_pos rfl]; rw [signN_cons, if_pos (by have := btrue d1; omega)]
      · rw [wrap_in (by omega) (by omega), show (k : Int) + 1 = ((k + 1 : Nat) : Int) by omega]
        refine rValLoop hp s (k + 1) hk2 hs _ ?_
        rw [hdr, d1, if_neg (by simp)]; rw [signN_cons, if_neg (by have := bfalse d1; omega), if_pos (by have := btrue d2; omega)]
      · refine rValLoop hp s k hk hs false ?_
        rw [if_neg (by simp), hdr]; rw [signN_cons, if_neg (by have := bfalse d1; omega), if_neg (by have := bfalse d2; omega)]
    · refine rValLoop hp s k hk hs false ?_
      have hk2 : k = s.size := by have := dfalse d; omega
      rw [if_neg (by simp), List.drop_eq_nil_of_le (by rw [size_list]; omega)]; rfl
  refine Br.of (fun d => ?_) (fun d => ?_)
  · have hk2 : k < s.size := by have := dtrue d; omega
    obtain ⟨b, hb1, hb⟩ := at_byte hk2
    have hbb : s[((k : Int)).toNat]? = some b := hb1
    rw [drop_at hb] at hd
    refine ⟨b, by omega, hbb, Br.of (fun d1 => ?_) (fun d1 => tail ?_)⟩
    · have e : b = 32 := by apply UInt8.toNat_inj.1; have := btrue d1; show b.toNat = 32; omega
      rw [wrap_in (by omega) (by omega)]
      refine hJ _ _ hk2 ⟨by omega, ?_, hp⟩
      rw [hd, e]; rfl
    · have e : (b == 32) = false := by
        have := bfalse d1
        simp only [beq_eq_false_iff_ne, ne_eq]
        intro h; subst h; exact this rfl
      rw [hd, drop_at hb]
      simp [List.dropWhile_cons, e]
  · have hk2 : k = s.size := by have := dfalse d; omega
    refine tail ?_
    have hn : s.data.toList.drop k = [] := List.drop_eq_nil_of_le (by rw [size_list]; omega)
    rw [hd, hn]; rfl
def dateS (y m d : Nat) : Int × Bool := (((if IsDate y m d then dayOf y m d else 0 : Nat) : Int), decide (IsDate y m d))
def unstampS (l : List UInt8) : Int × Bool := if l = List.replicate 8 32 then (0, true) else if l.length ≠ 8 then (0, false) else if l.all digB then dateS (digN 0 (l.take 4)) (digN 0 ((l.drop 4).take 2)) (digN 0 (l.drop 6)) else (0, false)
theorem unstampS_in (l : List UInt8) : 0 <= (unstampS l).1 /\ (unstampS l).1 <= 3652059 := by
  unfold unstampS
  split
  · simp
  · split
    · simp
    · split
      · unfold dateS
        dsimp only
        split
        · rename_i h
          have h1 := h.year
          have h2 := yfirst_mono (a := digN 0 (l.take 4) + 1) (b := 10000) (by omega) (by have := h.2.1; omega)
          have := yfirst_end
          omega
        · omega
      · simp
theorem valS_digits {l : List UInt8} (h : l.all digB = true) : valS l = (digN 0 l : Nat) := by
  cases l with
  | nil => rfl
  | cons b r =>
    have hb := digB_in (List.all_eq_true.1 h b (by simp))
    have e : (b == 32) = false := by
      simp only [beq_eq_false_iff_ne, ne_eq]
      intro h; subst h; revert hb; decide
    unfold valS
    rw [List.dropWhile_cons, e]
    simp only [Bool.false_eq_true, if_false]
    rw [signN_cons, if_neg (by omega), if_neg (by omega)]
def dset : List UInt8 := [48, 49, 50, 51, 52, 53, 54, 55, 56, 57]
theorem dset_eq (b : UInt8) : dset.contains b = digB b := by
  have h : ∀ n : Nat, n < 256 -> dset.contains (UInt8.ofNat n) = digB (UInt8.ofNat n) := by decide +kernel
  have := h b.toNat b.toNat_lt
  rwa [UInt8.ofNat_toNat] at this
theorem trimD_c (s : ByteArray) (hs : s.size <= 9223372036854775807) (w : World) : Calls Tryz.prog 135 #[.string s, .string ⟨#[48, 49, 50, 51, 52, 53, 54, 55, 56, 57]⟩] w
    fun e w' => e = .returned (.string ⟨(Lib.trimS s.data.toList dset).toArray⟩) /\ Pu w w' :=
  Any.strings_Trim_laid Tryz.lays160 u110 s ⟨#[48, 49, 50, 51, 52, 53, 54, 55, 56, 57]⟩ w hs (by decide) (ascii_of_all (by decide))
theorem blanks8 (s : ByteArray) : (s.toList == (⟨#[32, 32, 32, 32, 32, 32, 32, 32]⟩ : ByteArray).toList) = decide (s.data.toList = List.replicate 8 32) := by
  rw [toList_beq]
  exact dec_eq ⟨fun h => by rw [h]; rfl, fun h => bytes_ext (by rw [h]; rfl)⟩
theorem all_take_of {l : List UInt8} (h : l.all digB = true) (n : Nat) : (l.take n).all digB = true := List.all_eq_true.2 fun b hb => List.all_eq_true.1 h b (List.mem_of_mem_take hb)
theorem all_drop_of {l : List UInt8} (h : l.all digB = true) (n : Nat) : (l.drop n).all digB = true := List.all_eq_true.2 fun b hb => List.all_eq_true.1 h b (List.mem_of_mem_drop hb)
theorem ext3 {s : ByteArray} (h8 : s.size = 8) : (s.extract 0 ((4 : Int).toNat)).data.toList = s.data.toList.take 4 /\ (s.extract ((4 : Int).toNat) ((6 : Int).toNat)).data.toList = (s.data.toList.drop 4).take 2 /\ (s.extract ((6 : Int).toNat) s.size).data.toList = s.data.toList.drop 6 := by
  refine ⟨by rw [extract_list]; rfl, ?_, ?_⟩
  · rw [extract_list]
    show (List.take 6 s.data.toList).drop 4 = _
    rw [List.drop_take]
  · rw [extract_list, h8, List.take_of_length_le (by rw [size_list]; omega)]; rfl
theorem unstamp_c (s : ByteArray) (hs : s.size <= 140737488355328) (w : World) : Calls Tryz.prog 152 #[.string s] w fun e w' => e = .returned (.tuple #[.int .i64 (unstampS s.data.toList).1, .bool (unstampS s.data.toList).2]) /\ Pu w w' := by
  refine F152_calls _ w _ ?_
  rw [F152_1, blanks8]
  refine Br.of (fun d => ⟨by unfold unstampS; rw [if_pos (dtrue d)], Pu.refl w⟩) (fun d => Br.of (fun d1 => ⟨?_, Pu.refl w⟩) (fun d1 => (trimD_c s (by omega) w).mono ?_))
  · unfold unstampS; rw [if_neg (dfalse d), if_pos (by rw [size_list]; have := bntrue d1; omega)]
  have h8 : s.size = 8 := by have := bnfalse d1; omega
  rintro e w1 ⟨rfl, hp1⟩
  have e2 : ((ByteArray.mk (Lib.trimS s.data.toList dset).toArray).toList == (⟨#[]⟩ : ByteArray).toList) = s.data.toList.all digB := by
    rw [toList_nil]
    have h1 : ((ByteArray.mk (Lib.trimS s.data.toList dset).toArray).size = 0) ↔ s.data.toList.all (dset.contains ·) = true := by
      rw [← trimS_nil]; simp [ByteArray.size]
    rw [show digB = (dset.contains ·) from funext fun b => (dset_eq b).symm]
    rw [Bool.eq_iff_iff, decide_eq_true_iff]; exact h1
  refine ⟨_, rfl, ?_⟩
  rw [e2]
  have eU : unstampS s.data.toList = if s.data.toList.all digB then dateS (digN 0 (s.data.toList.take 4)) (digN 0 ((s.data.toList.drop 4).take 2)) (digN 0 (s.data.toList.drop 6)) else (0, false) := by
    unfold unstampS; rw [if_neg (dfalse d), if_neg (by rw [size_list]; omega)]
  refine Br.of (fun d2 => ⟨by rw [eU, if_neg (by simpa using d2)], hp1⟩) (fun d2 => dwE_intro fun w2 hp2 _ => ?_)
  have hall : s.data.toList.all digB = true := by simpa using d2
  obtain ⟨x1, x2, x3⟩ := ext3 h8
  refine ⟨by omega, by rw [h8]; decide, by decide, by omega, by rw [h8]; decide, by omega, by decide, Nat.le_refl _, by omega, by rw [h8]; decide, (val_c _ (by rw [← size_list, x1, List.length_take]; omega) w2).mono ?_⟩
  rintro e w3 ⟨rfl, hp3⟩
  refine ⟨_, rfl, (val_c _ (by rw [← size_list, x2, List.length_take]; omega) w3).mono ?_⟩
  rintro e w4 ⟨rfl, hp4⟩
  refine ⟨_, rfl, (val_c _ (by rw [← size_list, x3, List.length_drop, size_list]; omega) w4).mono ?_⟩
  rintro e w5 ⟨rfl, hp5⟩
  rw [x1, x2, x3, valS_digits (all_take_of hall 4), valS_digits (all_take_of (all_drop_of hall 4) 2), valS_digits (all_drop_of hall 6)]
  refine ⟨_, rfl, (days_c _ _ _ w5).mono ?_⟩
  rintro e w6 ⟨rfl, hp6⟩
  refine ⟨_, _, rfl, ?_, (((hp1.trans hp2).trans hp3).trans (hp4.trans hp5)).trans hp6⟩
  rw [eU, if_pos hall]
  unfold dateS
  by_cases hD : IsDate (digN 0 (s.data.toList.take 4)) (digN 0 ((s.data.toList.drop 4).take 2)) (digN 0 (s.data.toList.drop 6))
  · rw [if_pos hD, if_pos hD, decide_eq_true hD]; rfl
  · rw [if_neg hD, if_neg hD, decide_eq_false hD]; rfl
theorem rUnstamp_c (s : ByteArray) (hs : s.size <= 140737488355328) (w : World) : Calls Tryz.prog 122 #[.string s] w fun e w' => e = .returned (.tuple #[.int .i64 (unstampS s.data.toList).1, .bool (unstampS s.data.toList).2]) /\ Pu w w' := by
  refine F122_calls _ w _ ?_
  rw [F122_5, blanks8]
  refine Br.of (fun d => ⟨by unfold unstampS; rw [if_pos (dtrue d)], Pu.refl w⟩) (fun d => Br.of (fun d1 => ⟨?_, Pu.refl w⟩) (fun d1 => ?_))
  · unfold unstampS; rw [if_neg (dfalse d), if_pos (by rw [size_list]; have := bntrue d1; omega)]
  have h8 : s.size = 8 := by have := bnfalse d1; omega
  have eU : unstampS s.data.toList = if s.data.toList.all digB then dateS (digN 0 (s.data.toList.take 4)) (digN 0 ((s.data.toList.drop 4).take 2)) (digN 0 (s.data.toList.drop 6)) else (0, false) := by
    unfold unstampS; rw [if_neg (dfalse d), if_neg (by rw [size_list]; omega)]
  refine loopUp 8 (fun k t w' => t = (k : Int) /\ (s.data.toList.take k).all digB = true /\ Pu w w') ⟨rfl, rfl, Pu.refl w⟩ ?_
  rintro k J t w1 hk ⟨ht, hal, hp1⟩ hJ
  obtain rfl : t = (k : Int) := ht
  refine Br.of (fun d2 => ?_) (fun d2 => dwE_intro fun w2 hp2 _ => ?_)
  · have hk2 : k < 8 := by have := dtrue d2; omega
    obtain ⟨b, hb1, hb⟩ := at_byte (s := s) (k := k) (by omega)
    have hbb : s[((k : Int)).toNat]? = some b := hb1
    refine ⟨b, by omega, hbb, (isDigit_c b w1).mono ?_⟩
    rintro e w2 ⟨rfl, hp2⟩
    refine ⟨_, rfl, Br.of (fun d3 => ⟨?_, hp1.trans hp2⟩) (fun d3 => ?_)⟩
    · rw [eU, if_neg]
      intro hA
      have := List.all_eq_true.1 hA b (List.mem_of_getElem? hb)
      rw [this] at d3; cases d3
    · rw [wrap_in (by omega) (by omega)]
      exact hJ _ _ hk2 ⟨by omega, by rw [all_take _ hb, hal]; simpa using d3, hp1.trans hp2⟩
  have hk2 : k = 8 := by have := dfalse d2; omega
  subst hk2
  have hall : s.data.toList.all digB = true := by
    rw [List.take_of_length_le (by rw [size_list]; omega)] at hal; exact hal
  obtain ⟨x1, x2, x3⟩ := ext3 h8
  refine ⟨by omega, by rw [h8]; decide, by decide, by omega, by rw [h8]; decide, by omega, by decide, Nat.le_refl _, by omega, by rw [h8]; decide, (rVal_c _ (by rw [← size_list, x1, List.length_take]; omega) w2).mono ?_⟩
  rintro e w3 ⟨rfl, hp3⟩
  refine ⟨_, rfl, (rVal_c _ (by rw [← size_list, x2, List.length_take]; omega) w3).mono ?_⟩
  rintro e w4 ⟨rfl, hp4⟩
  refine ⟨_, rfl, (rVal_c _ (by rw [← size_list, x3, List.length_drop, size_list]; omega) w4).mono ?_⟩
  rintro e w5 ⟨rfl, hp5⟩
  rw [x1, x2, x3, valS_digits (all_take_of hall 4), valS_digits (all_take_of (all_drop_of hall 4) 2), valS_digits (all_drop_of hall 6)]
  refine ⟨_, rfl, (rDays_c _ _ _ w5).mono ?_⟩
  rintro e w6 ⟨rfl, hp6⟩
  refine ⟨_, _, rfl, ?_, (((hp1.trans hp2).trans hp3).trans (hp4.trans hp5)).trans hp6⟩
  rw [eU, if_pos hall]
  unfold dateS
  by_cases hD : IsDate (digN 0 (s.data.toList.take 4)) (digN 0 ((s.data.toList.drop 4).take 2)) (digN 0 (s.data.toList.drop 6))
  · rw [if_pos hD, if_pos hD, decide_eq_true hD]; rfl
  · rw [if_neg hD, if_neg hD, decide_eq_false hD]; rfl
end Go.Proofs.YtecmfdfhpldmmaaGreatDoor

/- Table: values that are read back, by both packages. No condition. -/
set_option maxRecDepth 100000
set_option linter.unusedVariables false
set_option linter.unusedSimpArgs false
namespace Go.Proofs.YtecmfdfhpldmmaaGreatDoor
open Go.Sh Go.RowKit
def readS (k : Int) (s : List UInt8) : Val := if k = 1 then ⟨1, if s = [84] then 1 else 0, ⟨#[]⟩⟩ else if k = 3 then ⟨3, (unstampS s).1, ⟨#[]⟩⟩ else if k = 4 then ⟨4, 0, bs (bare s)⟩ else ⟨2, valS s, ⟨#[]⟩⟩
def okS (k : Int) (s : List UInt8) : Bool := if k = 1 then decide (s = [84]) || decide (s = [70]) else if k = 2 then !(s.all (· == 32)) else if k = 3 then (unstampS s).2 else true
theorem readS_in (k : Int) (s : List UInt8) : In64 (readS k s).kind /\ In64 (readS k s).n := by
  have h1 := valS_in s
  have h2 := unstampS_in s
  unfold readS In64
  split
  · dsimp only
    split <;> omega
  · split
    · dsimp only; omega
    · split
      · dsimp only; omega
      · dsimp only; omega
theorem digN_snoc : ∀ {l : List UInt8} {a : Nat} {d : UInt8}, (∀ b ∈ l, digB b = true) -> digB d = true -> digN a (l ++ [d]) = min (10 * digN a l + (d.toNat - 48)) 1000000000000000
  | [], a, d, _, hd => by simp [digN, hd]
  | b :: l, a, d, hl, hd => by
    rw [List.cons_append, digN, hl b (by simp), if_pos rfl, digN_snoc (fun x hx => hl x (by simp [hx])) hd, digN, hl b (by simp), if_pos rfl]
theorem decN_digB (n : Nat) : ∀ b ∈ decN n, digB b = true := fun b hb => by
  have := decN_digit n b hb
  unfold digB; simp; omega
theorem dig_ofNat {n : Nat} (h : n < 10) : digB (UInt8.ofNat (48 + n)) = true /\ (UInt8.ofNat (48 + n)).toNat - 48 = n := by
  have e : (UInt8.ofNat (48 + n)).toNat = 48 + n := by simp; omega
  exact ⟨by unfold digB; simp only [e]; simp; omega, by omega⟩
theorem digN_dec : ∀ n : Nat, n <= 1000000000000000 -> digN 0 (decN n) = n := by
  intro n
  induction n using Nat.strongRecOn with
  | _ n ih =>
    intro hn
    by_cases h : n < 10
    · rw [decN_lt h]
      obtain ⟨h1, h2⟩ := dig_ofNat h
      rw [digN, h1, if_pos rfl, digN, h2]; omega
    · rw [decN_ge h]
      obtain ⟨h1, h2⟩ := dig_ofNat (n := n % 10) (by omega)
      rw [digN_snoc (decN_digB _) h1, h2, ih (n / 10) (by omega) (by omega)]; omega
theorem digN_zeros (l : List UInt8) : ∀ j : Nat, digN 0 (List.replicate j 48 ++ l) = digN 0 l
  | 0 => rfl
  | j + 1 => by
    rw [List.replicate_succ, List.cons_append, digN]
    rw [show digB 48 = true by decide, if_pos rfl]
    exact digN_zeros l j
theorem digN_pad (k n : Nat) (h : n <= 1000000000000000) : digN 0 (padN k n) = n := by unfold padN; rw [digN_zeros, digN_dec n h]
theorem padN_digB (k n : Nat) : ∀ b ∈ padN k n, digB b = true := fun b hb => by
  unfold padN at hb
  rcases List.mem_append.1 hb with h | h
  · rw [List.eq_of_mem_replicate h]; decide
  · exact decN_digB n b h
theorem dropWhile_blanks (l : List UInt8) : ∀ j : Nat, (List.replicate j 32 ++ l).dropWhile (· == 32) = l.dropWhile (· == 32)
  | 0 => rfl
  | j + 1 => by rw [List.replicate_succ, List.cons_append, List.dropWhile_cons]; simp only [beq_self_eq_true, if_true]; exact dropWhile_blanks l j
theorem valS_blanks (j : Nat) (l : List UInt8) : valS (List.replicate j 32 ++ l) = valS l := by unfold valS; rw [dropWhile_blanks]
theorem valS_dec {n : Int} (h : -1000000000000000 <= n /\ n <= 1000000000000000) : valS (decI n) = n := by
  unfold decI
  split
  · unfold valS
    rw [List.dropWhile_cons, show ((45 : UInt8) == 32) = false by decide]
    simp only [Bool.false_eq_true, if_false]
    rw [signN_cons, if_pos (by decide), digN_dec _ (by omega)]; omega
  · rw [valS_digits (List.all_eq_true.2 fun b hb => decN_digB _ b hb), digN_dec _ (by omega)]; omega
theorem unstamp_stamp {n : Int} (h : 0 <= n /\ n <= 3652059) : unstampS (stampB n) = (n, true) := by
  by_cases h0 : n = 0
  · rw [h0, stampB_zero]; unfold unstampS; rw [if_pos rfl]
  obtain ⟨k, rfl⟩ : ∃ k : Nat, n = (k : Int) := ⟨n.toNat, by omega⟩
  obtain ⟨y, m, d, hD, rfl⟩ := date_of (k := k) (by omega)
  rw [stampB_date hD]
  obtain ⟨a, b, c⟩ := date_pads hD
  have l4 := padN_len a.1
  have l2 := padN_len b.1
  have l2' := padN_len c.1
  have hall : (padN 4 y ++ padN 2 m ++ padN 2 d).all digB = true := List.all_eq_true.2 fun x hx => by
    rcases List.mem_append.1 hx with hx | hx
    · rcases List.mem_append.1 hx with hx | hx
      · exact padN_digB _ _ x hx
      · exact padN_digB _ _ x hx
    · exact padN_digB _ _ x hx
  have hne : ¬ (padN 4 y ++ padN 2 m ++ padN 2 d) = List.replicate 8 32 := fun e => by
    rw [e] at hall; revert hall; decide
  unfold unstampS
  rw [if_neg hne, if_neg (by rw [stamp_len8 hD]; simp), if_pos hall]
  have e1 : (padN 4 y ++ padN 2 m ++ padN 2 d).take 4 = padN 4 y := by rw [List.append_assoc, List.take_append_of_le_length (by omega), List.take_of_length_le (by omega)]
  have e2 : ((padN 4 y ++ padN 2 m ++ padN 2 d).drop 4).take 2 = padN 2 m := by
    rw [List.append_assoc, List.drop_append_of_le_length (by omega), List.drop_eq_nil_of_le (by omega), List.nil_append, List.take_append_of_le_length (by omega), List.take_of_length_le (by omega)]
  have e3 : (padN 4 y ++ padN 2 m ++ padN 2 d).drop 6 = padN 2 d := by
    rw [List.drop_append, List.drop_eq_nil_of_le (by rw [List.length_append]; omega), List.nil_append, List.length_append, l4, l2]; rfl
  rw [e1, e2, e3, digN_pad _ _ (by omega), digN_pad _ _ (by omega), digN_pad _ _ (by omega)]
  unfold dateS
  rw [if_pos hD, decide_eq_true hD]
theorem bare_blanks (l : List UInt8) : ∀ j : Nat, bare (l ++ List.replicate j 32) = bare l
  | 0 => by simp
  | j + 1 => by rw [List.replicate_succ', ← List.append_assoc, bare_snoc, if_pos rfl, bare_blanks l j]
theorem not_blank {j : Nat} {n : Int} : ((List.replicate j 32 ++ decI n).all (· == 32)) = false := by
  rw [List.all_append]
  have : (decI n).all (· == (32 : UInt8)) = false := by
    rw [List.all_eq_false]
    unfold decI
    split
    · exact ⟨45, by simp, by decide⟩
    · have hp := decN_pos n.natAbs
      obtain ⟨b, hb⟩ := at_k (l := decN n.natAbs) (k := 0) (by omega)
      have hm := List.mem_of_getElem? hb
      refine ⟨b, hm, ?_⟩
      have := decN_digit n.natAbs b hm
      intro h
      have : b = 32 := by simpa using h
      subst this
      revert this; simp at *
  rw [this, Bool.and_false]
theorem read_shown {f : Fld} {p : Int} {v : Val} (h : RightV f p v) (h0 : v.kind ≠ 0) : readS f.kind (shownS f v) = v /\ okS f.kind (shownS f v) = true := by
  cases h with
  | nil hv hn => rw [hv] at h0; exact absurd rfl h0
  | truth hk hw hv hn =>
    have e : shownS f v = [if v.n = 1 then 84 else 70] := by unfold shownS; rw [if_neg h0, if_pos hk]
    rw [e]; unfold readS okS; rw [if_pos hk, if_pos hk]
    rcases hn with hn | hn
    · rw [hn]; refine ⟨?_, by decide⟩; rw [hv, hn]; rfl
    · rw [hn]; refine ⟨?_, by decide⟩; rw [hv, hn]; rfl
  | num hk hw hv hn hl =>
    have e : shownS f v = List.replicate (f.width.toNat - (decI v.n).length) 32 ++ decI v.n := by unfold shownS; rw [if_neg h0, if_neg (by omega), if_neg (by omega), if_neg (by omega), if_neg (by omega)]
    rw [e]; unfold readS okS
    rw [if_neg (by omega), if_neg (by omega), if_neg (by omega), if_neg (by omega), if_pos hk, valS_blanks, valS_dec hn, not_blank]
    exact ⟨hv.symm, rfl⟩
  | date hk hw hv hn =>
    have e : shownS f v = stampB v.n := by unfold shownS; rw [if_neg h0, if_neg (by omega), if_pos hk]
    rw [e]; unfold readS okS
    rw [if_neg (by omega), if_pos hk, if_neg (by omega), if_neg (by omega), if_pos hk, unstamp_stamp hn]
    exact ⟨hv.symm, rfl⟩
  | text hk hw hv hl hb ht =>
    have e : shownS f v = textSh f v := by unfold shownS; rw [if_neg h0, if_neg (by omega), if_neg (by omega), if_pos hk]
    rw [e]; unfold readS okS textSh
    rw [if_neg (by omega), if_neg (by omega), if_pos hk, if_neg (by omega), if_neg (by omega), if_neg (by omega), bare_blanks, hb, list_bs]
    exact ⟨hv.symm, rfl⟩
  | memo hk hw hv hn =>
    have e : valS (shownS f v) = v.n := by
      unfold shownS
      rw [if_neg h0, if_neg (by omega), if_neg (by omega), if_neg (by omega)]
      by_cases hz : v.n = 0
      · rw [if_pos ⟨hk, hz⟩, hz, hw]; decide
      · rw [if_neg (by simp [hz]), valS_blanks, valS_dec (by omega)]
    unfold readS okS
    rw [if_neg (by omega), if_neg (by omega), if_neg (by omega), if_neg (by omega), if_neg (by omega), if_neg (by omega), e]
    exact ⟨hv.symm, rfl⟩
theorem one_eq (s : ByteArray) (c : UInt8) : (s.toList == (⟨#[c]⟩ : ByteArray).toList) = decide (s.data.toList = [c]) := by
  rw [toList_beq]
  exact dec_eq ⟨fun h => by rw [h], fun h => bytes_ext (by rw [h])⟩
theorem readTruth_c (s : ByteArray) (w : World) : Calls Tryz.prog 126 #[.string s] w fun e w' => e = .returned (.tuple #[valA (readS 1 s.data.toList), .bool (okS 1 s.data.toList)]) /\ Pu w w' := by
  refine F126_calls _ w _ (alB fun w1 hp1 hb1 => boxA rfl s25.symm rfl fun w2 hp2 hs2 hb2 => ?_)
  have hlt : w.heap.size < w1.heap.size := blk_lt hb1
  have b1 := hp2.blk hb1
  rw [one_eq, one_eq]
  unfold readS okS
  rw [if_pos rfl, if_pos rfl]
  refine Br.of (fun d => ?_) (fun d => ⟨_, cl hb2 0, _, cl hb2 1, _, cl hb2 2, Br.of (fun d1 => absurd d1 (by rw [d]; simp)) (fun d1 => stA_fill b1 s25.symm rfl rfl fun w3 hb3 hf3 hs3 => ⟨_, cl hb3 0, _, cl hb3 1, _, cl hb3 2, ?_, hp1.trans hp2 |>.andNew hf3 fun i hi => by omega⟩)⟩)
  · show st1 ((⟨w1.heap.size, 0, none⟩ : Addr).add 1) _ w2 _
    rw [add_def]
    refine st1_intro hb2 (by decide) fun w3 hw3 hb3 => ?_
    have hf3 : Fr (· = w1.heap.size) w2 w3 := by rw [hw3]; exact Fr.cell w2 _ _ _
    have b3 := hf3.blk b1 (show ¬ w.heap.size = w1.heap.size by omega)
    have hp3 : Pu w w3 := (hp1.trans hp2).andNew hf3 fun i hi => by omega
    refine ⟨_, cl hb3 0, _, cl hb3 1, _, cl hb3 2, Br.t d (stA_fill b3 s25.symm rfl rfl fun w4 hb4 hf4 hs4 => ⟨_, cl hb4 0, _, cl hb4 1, _, cl hb4 2, ?_, hp3.andNew hf4 fun i hi => by omega⟩)⟩
    rw [if_pos (dtrue d), d]; rfl
  · rw [if_neg (dfalse d), d]; simp
theorem trimB_nil (l : List UInt8) : (Lib.trimB l 32 = []) ↔ l.all (· == 32) = true := by
  unfold Lib.trimB Lib.trimLeftB Lib.trimRightB
  rw [dropWhile_nil, List.all_reverse, dropWhile_all, List.all_reverse]
theorem readNum_c (s : ByteArray) (hs : s.size <= 140737488355328) (w : World) : Calls Tryz.prog 128 #[.string s] w fun e w' => e = .returned (.tuple #[valA (readS 2 s.data.toList), .bool (okS 2 s.data.toList)]) /\ Pu w w' := by
  refine F128_calls _ w _ (alB fun w1 hp1 hb1 => (val_c s hs w1).mono ?_)
  rintro e w2 ⟨rfl, hp2⟩
  refine ⟨_, rfl, (Any.strings_Trim_one Tryz.lays160 s 32 (by decide) w2 (by omega)).mono ?_⟩
  rintro e w3 ⟨rfl, hw3⟩
  have hp3 : Pu w2 w3 := by
    rcases hw3 with h | h
    · rw [h]; exact Pu.refl _
    · rw [h]; exact Pu.drew _
  refine ⟨_, rfl, stA_fill ((hp2.trans hp3).blk hb1) s25.symm rfl rfl fun w4 hb3 hf3 hs3 => ⟨_, cl hb3 0, _, cl hb3 1, _, cl hb3 2, ?_, (hp1.trans (hp2.trans hp3)).andNew hf3 fun i hi => by omega⟩⟩
  rw [toList_nil]
  have e : decide ((ByteArray.mk (Lib.trimB s.data.toList 32).toArray).size = 0) = s.data.toList.all (· == 32) := by
    have h1 : ((ByteArray.mk (Lib.trimB s.data.toList 32).toArray).size = 0) ↔ s.data.toList.all (· == 32) = true := by
      rw [← trimB_nil]; simp [ByteArray.size]
    rw [Bool.eq_iff_iff, decide_eq_true_iff]; exact h1
  rw [e]; rfl
theorem readDate_c (s : ByteArray) (hs : s.size <= 140737488355328) (w : World) : Calls Tryz.prog 130 #[.string s] w fun e w' => e = .returned (.tuple #[valA (readS 3 s.data.toList), .bool (okS 3 s.data.toList)]) /\ Pu w w' := by
  refine F130_calls _ w _ (alB fun w1 hp1 hb1 => (unstamp_c s hs w1).mono ?_)
  rintro e w2 ⟨rfl, hp2⟩
  exact ⟨_, _, rfl, stA_fill (hp2.blk hb1) s25.symm rfl rfl fun w3 hb3 hf3 hs3 => ⟨_, cl hb3 0, _, cl hb3 1, _, cl hb3 2, rfl, (hp1.trans hp2).andNew hf3 fun i hi => by omega⟩⟩
theorem readText_c (s : ByteArray) (hs : s.size <= 140737488355328) (w : World) : Calls Tryz.prog 132 #[.string s] w fun e w' => e = .returned (.tuple #[valA (readS 4 s.data.toList), .bool (okS 4 s.data.toList)]) /\ Pu w w' := by
  refine F132_calls _ w _ (alB fun w1 hp1 hb1 => (trimRight_c s hs w1).mono ?_)
  rintro e w2 ⟨rfl, hp2⟩
  exact ⟨_, rfl, stA_fill (hp2.blk hb1) s25.symm rfl rfl fun w3 hb3 hf3 hs3 => ⟨_, cl hb3 0, _, cl hb3 1, _, cl hb3 2, rfl, (hp1.trans hp2).andNew hf3 fun i hi => by omega⟩⟩
theorem readMemo_c (s : ByteArray) (hs : s.size <= 140737488355328) (w : World) : Calls Tryz.prog 134 #[.string s] w fun e w' => e = .returned (.tuple #[valA (readS 5 s.data.toList), .bool (okS 5 s.data.toList)]) /\ Pu w w' := by
  refine F134_calls _ w _ (alB fun w1 hp1 hb1 => (val_c s hs w1).mono ?_)
  rintro e w2 ⟨rfl, hp2⟩
  exact ⟨_, rfl, stA_fill (hp2.blk hb1) s25.symm rfl rfl fun w3 hb3 hf3 hs3 => ⟨_, cl hb3 0, _, cl hb3 1, _, cl hb3 2, rfl, (hp1.trans hp2).andNew hf3 fun i hi => by omega⟩⟩
theorem reader_c {f : Fld} (hf : fieldB f = true) : ∃ K, kindOf5 f.kind = some K /\ hasBody Tryz.prog K.rd = true /\ ∀ (s : ByteArray), s.size <= 140737488355328 -> ∀ w, Calls Tryz.prog K.rd #[.string s] w fun e w' => e = .returned (.tuple #[valA (readS f.kind s.data.toList), .bool (okS f.kind s.data.toList)]) /\ Pu w w' := by
  rcases fld_kinds hf with ⟨e, _⟩ | ⟨e, _⟩ | ⟨e, _⟩ | ⟨e, _⟩ | ⟨e, _⟩
  · rw [e]; exact ⟨_, rfl, by kernel_rfl, fun s _ w => readTruth_c s w⟩
  · rw [e]; exact ⟨_, rfl, by kernel_rfl, readNum_c⟩
  · rw [e]; exact ⟨_, rfl, by kernel_rfl, readDate_c⟩
  · rw [e]; exact ⟨_, rfl, by kernel_rfl, readText_c⟩
  · rw [e]; exact ⟨_, rfl, by kernel_rfl, readMemo_c⟩
theorem rTruth_c (b : Bool) (w : World) : Calls Tryz.prog 124 #[.bool b] w fun e w' => e = .returned (valA ⟨1, if b then 1 else 0, ⟨#[]⟩⟩) /\ Pu w w' := by
  refine F124_calls _ w _ (alB fun w1 hp1 hb1 => Br.of (fun d => stA_fill hb1 s25.symm rfl rfl fun w3 hb3 hf3 hs3 => ⟨_, cl hb3 0, _, cl hb3 1, _, cl hb3 2, ?_, hp1.andNew hf3 fun i hi => by omega⟩) (fun d => stA_fill hb1 s25.symm rfl rfl fun w3 hb3 hf3 hs3 => ⟨_, cl hb3 0, _, cl hb3 1, _, cl hb3 2, ?_, hp1.andNew hf3 fun i hi => by omega⟩))
  · rw [d]; rfl
  · rw [d]; rfl
theorem rDate_c (n : Int) (w : World) : Calls Tryz.prog 123 #[.int .i64 n] w fun e w' => e = .returned (valA ⟨3, n, ⟨#[]⟩⟩) /\ Pu w w' := by
  refine F123_calls _ w _ (boxA rfl s25.symm rfl fun w1 hp1 _ hb1 => ?_)
  exact ⟨_, cl hb1 0, _, cl hb1 1, _, cl hb1 2, rfl, hp1⟩
theorem readValue_c (f : Fld) (s : ByteArray) (hs : s.size <= 140737488355328) (w : World) : Calls Tryz.prog 116 #[fldA f, .string s] w fun e w' => e = .returned (valA (readS f.kind s.data.toList)) /\ Pu w w' := by
  refine F116_calls _ _ _ _ _ w _ (alB fun w1 hp1 hb1 => alB fun w2 hp2 hb2 => ⟨_, cl (hp2.blk hb1) 1, ?_⟩)
  have hp := hp1.trans hp2
  rw [one_eq]
  refine Br.of (fun d => (rTruth_c _ w2).mono ?_) (fun d => Br.of (fun d1 => (rUnstamp_c s hs w2).mono ?_) (fun d1 => Br.of (fun d2 => (rBare_c s (by omega) w2).mono ?_) (fun d2 => (rVal_c s hs w2).mono ?_)))
  · rintro e w3 ⟨rfl, hp3⟩
    refine ⟨_, _, _, rfl, stA_fill (hp3.blk hb2) s25.symm rfl rfl fun w4 hb4 hf4 hs4 => ⟨_, cl hb4 0, _, cl hb4 1, _, cl hb4 2, ?_, (hp.trans hp3).andNew hf4 fun i hi => by have := hp1.size; omega⟩⟩
    unfold readS; rw [if_pos (btrue d)]
    by_cases h : s.data.toList = [84]
    · rw [if_pos h, decide_eq_true h]; rfl
    · rw [if_neg h, decide_eq_false h]; rfl
  · rintro e w3 ⟨rfl, hp3⟩
    refine ⟨_, _, rfl, (rDate_c _ w3).mono ?_⟩
    rintro e w4 ⟨rfl, hp4⟩
    refine ⟨_, _, _, rfl, stA_fill ((hp3.trans hp4).blk hb2) s25.symm rfl rfl fun w5 hb5 hf5 hs5 => ⟨_, cl hb5 0, _, cl hb5 1, _, cl hb5 2, ?_, ((hp.trans hp3).trans hp4).andNew hf5 fun i hi => by have := hp1.size; omega⟩⟩
    unfold readS; rw [if_neg (bfalse d), if_pos (btrue d1)]
  · rintro e w3 ⟨rfl, hp3⟩
    refine ⟨_, rfl, (rText_c _ w3).mono ?_⟩
    rintro e w4 ⟨rfl, hp4⟩
    refine ⟨_, _, _, rfl, stA_fill ((hp3.trans hp4).blk hb2) s25.symm rfl rfl fun w5 hb5 hf5 hs5 => ⟨_, cl hb5 0, _, cl hb5 1, _, cl hb5 2, ?_, ((hp.trans hp3).trans hp4).andNew hf5 fun i hi => by have := hp1.size; omega⟩⟩
    unfold readS; rw [if_neg (bfalse d), if_neg (bfalse d1), if_pos (btrue d2)]
  · rintro e w3 ⟨rfl, hp3⟩
    refine ⟨_, rfl, (rNum_c _ w3).mono ?_⟩
    rintro e w4 ⟨rfl, hp4⟩
    refine ⟨_, _, _, rfl, stA_fill ((hp3.trans hp4).blk hb2) s25.symm rfl rfl fun w5 hb5 hf5 hs5 => ⟨_, cl hb5 0, _, cl hb5 1, _, cl hb5 2, ?_, ((hp.trans hp3).trans hp4).andNew hf5 fun i hi => by have := hp1.size; omega⟩⟩
    unfold readS; rw [if_neg (bfalse d), if_neg (bfalse d1), if_neg (bfalse d2)]
end Go.Proofs.YtecmfdfhpldmmaaGreatDoor

/- Table: rows that a conversion of a text has made. No condition. -/
set_option maxRecDepth 100000
set_option linter.unusedVariables false
set_option linter.unusedSimpArgs false
namespace Go.Proofs.YtecmfdfhpldmmaaGreatDoor
open Go.Sh Go.RowKit
def MRow (w0 w : World) (s : SV) (l : List UInt8) : Prop := ∃ (g : Nat) (cur : Array Value) (fz : Nat × Nat), s.a = some ⟨g, 0, none⟩ /\ w.heap[g]? = some (.cells cur 5 fz) /\ cur.size <= fz.1 /\ s.len = l.length /\ s.len <= s.cap /\ s.cap <= maxLen /\ cur.size = s.cap /\ cur.toList.take s.len = l.map u8V /\ w0.heap.size <= g
def ByRow (w0 w : World) (s : SV) (l : List UInt8) : Prop := MRow w0 w s l ∨ NewRow w0 w s l
theorem ByRow.pu {w0 w w' : World} {s : SV} {l : List UInt8} (h : ByRow w0 w s l) (hp : Pu w w') : ByRow w0 w' s l := by
  rcases h with ⟨g, cur, fz, h1, h2, h3⟩ | h
  · exact .inl ⟨g, cur, fz, h1, hp.blk h2, h3⟩
  · exact .inr (h.pu hp)
theorem ByRow.len {w0 w : World} {s : SV} {l : List UInt8} (h : ByRow w0 w s l) : s.len = l.length := by
  rcases h with ⟨g, cur, fz, h1, h2, h3, h4, _⟩ | h
  · exact h4
  · exact h.len
theorem MRow.cell {w0 w : World} {s : SV} {l : List UInt8} (h : MRow w0 w s l) {j : Nat} {b : UInt8} (hj : l[j]? = some b) : ∃ a, s.a = some a /\ w.cell? (a.add j) = some (u8V b) := by
  obtain ⟨g, cur, fz, h1, h2, h3, h4, h5, h6, h7, h8, _⟩ := h
  refine ⟨_, h1, ?_⟩
  rw [add_def, cell_blk h2, Nat.zero_add]
  have e : (cur.toList.take s.len)[j]? = some (u8V b) := by rw [h8, List.getElem?_map, hj]; rfl
  rw [List.getElem?_take] at e
  split at e
  · simpa using e
  · cases e
theorem ByRow.cell {w0 w : World} {s : SV} {l : List UInt8} (h : ByRow w0 w s l) {j : Nat} {b : UInt8} (hj : l[j]? = some b) : ∃ a, s.a = some a /\ w.cell? (a.add j) = some (u8V b) := by
  rcases h with h | h
  · exact h.cell hj
  · exact h.cell hj
theorem ByRow.low {w0 w1 w : World} {s : SV} {l : List UInt8} (h : ByRow w1 w s l) (hz : w0.heap.size <= w1.heap.size) : ByRow w0 w s l := by
  rcases h with ⟨g, cur, fz, h1, h2, h3, h4, h5, h6, h7, h8, h9⟩ | h
  · exact .inl ⟨g, cur, fz, h1, h2, h3, h4, h5, h6, h7, h8, Nat.le_trans hz h9⟩
  · exact .inr (h.low hz)
theorem MRow.push {w0 w : World} {s : SV} {l : List UInt8} (h : MRow w0 w s l) (hz : w0.heap.size <= w.heap.size) {r : Nat} {b : UInt8} {c : Array Value} (hr : w.heap[r]? = some (.cells c 5)) (hc : c[0]? = some (u8V b)) (hb : l.length <= 1000000) :
    ∃ (s' : SV) (w' : World), (Builtin.append_ #[37, 37] 37 #[.slice s.a s.len s.cap, .slice (some ⟨r, 0, none⟩) 1 1]).run Tryz.prog w = .ok (.slice s'.a s'.len s'.cap) w' /\ ByRow w0 w' s' (l ++ [b]) /\ Fr (· ∈ blkOf s) w w' := by
  have hcell := fun (j : Nat) (x : UInt8) (hj : l[j]? = some x) => h.cell hj
  obtain ⟨g, cur, fz, h1, h2, h3, h4, h5, h6, h7, h8, h9⟩ := h
  have hi := info5
  obtain ⟨i, i1, i2, i3, i4⟩ := info_parts hi
  have hnews : ∀ j u, [u8V b][j]? = some u -> w.cell? ((⟨r, 0, none⟩ : Addr).add j) = some u := fun j u hu => by
    cases j with
    | zero => simp at hu; subst hu; rw [add0, cell_blk hr]; exact hc
    | succ j => simp at hu
  have hgl : g < w.heap.size := blk_lt h2
  by_cases hroom : s.len + 1 <= s.cap
  · have hin : s.len < cur.size := by omega
    have hfro : w.frozen? ⟨g, s.len, none⟩ = false := by
      obtain ⟨lo, hi'⟩ := fz
      simp only [World.frozen?, h2, Bool.and_eq_false_iff, decide_eq_false_iff_not]
      left; simp only at h3; omega
    have hcl : w.cell? ⟨g, s.len, none⟩ = some cur[s.len] := by rw [cell_blk h2]; simp [hin]
    have hst : (storeCells ⟨g, s.len, none⟩ [u8V b] 0).run Tryz.prog w = .ok () (w.setCell ⟨g, s.len, none⟩ (u8V b)) := by
      simp only [storeCells, Sem.run_bind, add_def, Nat.add_zero]
      rw [run_store Tryz.prog w _ _ _ rfl, hcl]
      simp [hfro]
    have hf := run_firstCells_some (P := Tryz.prog) w i.size 1 ⟨r, 0, none⟩ 1 1 [u8V b] (by rw [i3]; rfl) hnews
    have hrun : (Builtin.append_ #[37, 37] 37 #[.slice s.a s.len s.cap, .slice (some ⟨r, 0, none⟩) 1 1]).run Tryz.prog w = .ok (.slice s.a (s.len + 1) s.cap) (w.setCell ⟨g, s.len, none⟩ (u8V b)) := by
      rw [h1]
      rw [i3] at hf
      simp [Builtin.append_, run_underlying u37, sizeOf, typeInfo, i1, i3, Builtin.lenOf, hroom, hf, Addr.add_lit, hst]
    refine ⟨⟨s.a, s.len + 1, s.cap⟩, _, hrun, .inl ⟨g, cur.setIfInBounds s.len (u8V b), fz, h1, setCell_blk h2 _ _, by rw [Array.size_setIfInBounds]; exact h3, by simp [h4], hroom, h6, by rw [Array.size_setIfInBounds]; exact h7, ?_, h9⟩, ?_⟩
    · rw [Array.toList_setIfInBounds, List.map_append, ← h8]
      apply List.ext_getElem?
      intro j
      show (List.take (s.len + 1) _)[j]? = _
      rw [List.getElem?_take]
      rcases Nat.lt_trichotomy j s.len with hj | hj | hj
      · rw [if_pos (by omega), List.getElem?_set_ne (by omega), List.getElem?_append_left (by rw [List.length_take, Array.length_toList]; omega), List.getElem?_take, if_pos hj]
      · subst hj
        rw [if_pos (by omega), List.getElem?_set_self (by rw [Array.length_toList]; exact hin), List.getElem?_append_right (by rw [List.length_take]; omega), List.length_take, Array.length_toList, show s.len - min s.len cur.size = 0 by omega]; rfl
      · rw [if_neg (by omega), List.getElem?_eq_none]
        rw [List.length_append, List.length_take, List.length_map, List.length_singleton]; omega
    · have := Fr.setCell w ⟨g, s.len, none⟩ (u8V b)
      exact ⟨this.os, this.tape, this.output, this.size, fun k hk hn => this.block k hk (fun e => hn (by simp [blkOf, h1, e]))⟩
  · have hlen : (l.map u8V).length = s.len * i.size := by rw [i3, List.length_map]; omega
    have holds : ∀ j u, (l.map u8V)[j]? = some u -> w.cell? ((⟨g, 0, none⟩ : Addr).add j) = some u := fun j u hu => by
      obtain ⟨x, hx, rfl⟩ : ∃ x, l[j]? = some x /\ u8V x = u := by simpa using hu
      obtain ⟨a, ha, hca⟩ := hcell j x hx
      rw [h1] at ha; cases ha; exact hca
    have hrun := run_append_grow (P := Tryz.prog) w 37 37 5 i (.int .u8 0) u37 i1 i2 ⟨g, 0, none⟩ s.len s.cap (l.map u8V) hlen holds ⟨r, 0, none⟩ 1 1 [u8V b] (by rw [i3]; rfl) hnews (by omega) (by omega) (growslice_fits (by omega) (by rw [i4]; omega))
    have hge := grownCap_ge w (s.len + 1) s.cap 5
    have hcm : grownCap w (s.len + 1) s.cap 5 <= maxLen := grownCap_le_maxLen w (s.len + 1) s.cap 5 (by unfold maxLen; omega)
    refine ⟨⟨some ⟨w.heap.size, 0, none⟩, s.len + 1, grownCap w (s.len + 1) s.cap 5⟩, _, by rw [h1]; exact hrun, .inr ⟨⟨by simp [h4], .inr ⟨w.heap.size, _, rfl, heap_alloc_new w.drew _, hge, hcm, ?_, ?_⟩⟩, fun k hk => by simp [blkOf] at hk; omega⟩, ?_⟩
    · simp only [Array.size_append, List.size_toArray, List.length_map, List.length_singleton, size_zeroCells]
      show l.length + 1 + (grownCap w (s.len + 1) s.cap 5 - (s.len + 1)) * 1 = _
      show l.length + 1 + (grownCap w (s.len + 1) s.cap 5 - (s.len + 1)) * 1 = grownCap w (s.len + 1) s.cap 5 * 1
      omega
    · simp only [Array.toList_append, List.append_assoc]
      rw [← List.append_assoc, List.map_append]
      have e : (List.map u8V l ++ [u8V b]).length = (s.len + 1) * 1 := by simp [h4]
      show List.take ((s.len + 1) * 1) _ = _
      rw [← e]
      exact List.take_left
    · exact (Fr.drew w).trans (Fr.alloc w.drew _) fun i hi _ => hi
theorem ByRow.push {w0 w : World} {s : SV} {l : List UInt8} (h : ByRow w0 w s l) (hp : Pu w0 w) {r : Nat} {b : UInt8} {c : Array Value} (hr : w.heap[r]? = some (.cells c 5)) (hc : c[0]? = some (u8V b)) (hb : l.length <= 1000000) :
    ∃ (s' : SV) (w' : World), (Builtin.append_ #[37, 37] 37 #[.slice s.a s.len s.cap, .slice (some ⟨r, 0, none⟩) 1 1]).run Tryz.prog w = .ok (.slice s'.a s'.len s'.cap) w' /\ ByRow w0 w' s' (l ++ [b]) /\ Pu w0 w' := by
  rcases h with h | h
  · obtain ⟨g, cur, fz, h1, _, _, _, _, _, _, _, h9⟩ := id h
    obtain ⟨s', w', e, h2, f⟩ := h.push hp.size hr hc hb
    exact ⟨s', w', e, h2, hp.andNew f fun i hi => by simp [blkOf, h1] at hi; omega⟩
  · obtain ⟨s', w', e, h2, f⟩ := h.one hp.size hr hc (by omega)
    exact ⟨s', w', e, .inr h2, hp.andNew f fun i hi => h.2 i hi⟩
theorem conv_mark (s : ByteArray) (hs : s.size <= 140737488355328) (w : World) : ∃ l : SV, ∃ w' : World, (convert 9 37 (.string s)).run Tryz.prog w = .ok (.slice l.a l.len l.cap) w' /\ Pu w w' /\ ByRow w w' l s.data.toList := by
  obtain ⟨c, hc, hcm, hcr⟩ : ∃ c, s.size <= c /\ c <= maxLen /\ (choose (.appendCap s.size 0 5)).run Tryz.prog w = .ok c w.drew := by
    refine ⟨(Question.appendCap s.size 0 5).cut (w.tape w.drawn (.appendCap s.size 0 5)), by simp [Question.cut], ?_, ?_⟩
    · simp only [Question.cut]
      have hm := Nat.mod_lt (w.tape w.drawn (.appendCap s.size 0 5)) (show 0 < 2 ^ 63 - s.size by omega)
      unfold maxLen; omega
    · rw [run_choose]; simp [Question.forced]
  obtain ⟨arr, harr⟩ : ∃ arr : Array Value, arr = (s.data.map fun b => Value.int .u8 b.toNat) ++ Array.replicate (c - s.size) (.int .u8 0) := ⟨_, rfl⟩
  have hsz : arr.size = c := by rw [harr]; simp; show s.size + _ = _; omega
  have hst : s.data.toList.length = s.size := size_list s
  refine ⟨⟨some ⟨w.heap.size, 0, none⟩, s.size, c⟩, (w.drew.alloc (.cells arr 5)).freeze ⟨w.heap.size, c, none⟩ 1, ?_, ?_, .inl ⟨w.heap.size, arr, (c, c + 1), rfl, ?_, by rw [hsz]; exact Nat.le_refl _, hst.symm, hc, hcm, hsz, ?_, Nat.le_refl _⟩⟩
  · unfold convert
    simp only [Sem.run_bind, run_under u9, run_under u37, Result.andThen_ok, run_under u5]
    unfold Conv.stringToBytes
    simp only [Sem.run_bind, hcr, Result.andThen_ok, ← harr, newRow, run_newObj, Sem.run_pure]
    have hsh : World.shape? (w.drew.alloc (.cells arr 5)) w.heap.size = some (5, c) := by
      unfold World.shape?
      rw [show (w.drew.alloc (.cells arr 5)).heap[w.heap.size]? = _ from alloc_new w.drew _]
      simp [hsz]
    unfold markStringish
    simp only [Sem.run_bind, run_shape, World.alloc_eq, Result.andThen_ok]
    rw [show w.drew.heap.size = w.heap.size from rfl, hsh]
    simp
  · refine ⟨by unfold World.freeze; simp; rfl, by unfold World.freeze; simp, by unfold World.freeze; simp; rfl, ?_, fun k hk => ?_⟩
    · unfold World.freeze; simp
    · unfold World.freeze
      simp only [Nat.one_ne_zero, if_false, Array.getElem?_modify]
      rw [if_neg (by omega)]
      exact Below.heap_alloc w.drew _ k hk
  · unfold World.freeze
    simp only [Nat.one_ne_zero, if_false, Array.getElem?_modify, if_true]
    rw [show (w.drew.alloc (.cells arr 5)).heap[w.heap.size]? = some (.cells arr 5) from alloc_new w.drew _]
    rfl
  · rw [harr, Array.toList_append, List.take_append_of_le_length (by simp), List.take_of_length_le (by simp)]
    simp [u8V]
end Go.Proofs.YtecmfdfhpldmmaaGreatDoor

/- Table: the reference's header and row. No condition. -/
set_option maxRecDepth 100000
set_option linter.unusedVariables false
set_option linter.unusedSimpArgs false
namespace Go.Proofs.YtecmfdfhpldmmaaGreatDoor
open Go.Sh Go.RowKit
theorem NewRow.cat {w1 w : World} {s m : SV} {l news : List UInt8} (h : NewRow w1 w s l) (hp : Pu w1 w) (hl : m.len = news.length) (hn : ∀ (j : Nat) (b : UInt8), news[j]? = some b -> ∃ a, m.a = some a /\ w.cell? (a.add j) = some (u8V b)) (hb : l.length + news.length <= 2000000) :
    ∃ (s' : SV) (w' : World), (Builtin.append_ #[37, 37] 37 #[.slice s.a s.len s.cap, .slice m.a m.len m.cap]).run Tryz.prog w = .ok (.slice s'.a s'.len s'.cap) w' /\ NewRow w1 w' s' (l ++ news) /\ Pu w1 w' := by
  obtain ⟨s', w', e, h2, f⟩ := h.app hp.size hl hn (by omega)
  exact ⟨s', w', e, h2, hp.andNew f fun i hi => h.2 i hi⟩
theorem box_cells {w : World} {r : Nat} {c : Array Value} {news : List UInt8} (hr : w.heap[r]? = some (.cells c 5)) (hc : c = (news.map u8V).toArray) : ∀ (j : Nat) (b : UInt8), news[j]? = some b -> ∃ a, (some (⟨r, 0, none⟩ : Addr)) = some a /\ w.cell? (a.add j) = some (u8V b) := fun j b hj => by
  refine ⟨_, rfl, ?_⟩
  rw [cl hr, hc]; simp [hj]
theorem rLow_c (n k : Nat) (hk : k <= 8) (hn : n <= 1000000000) (w : World) : Calls Tryz.prog 106 #[.int .i64 (n : Int), .int .i64 (k : Int)] w fun e w' => ∃ s : SV, e = .returned (.slice s.a s.len s.cap) /\ NewRow w w' s (lowN n k) /\ Pu w w' := by
  refine F106_calls _ _ w _ ?_
  refine loopUp k (fun j t w' => t.1 = ((n / 256 ^ j : Nat) : Int) /\ t.2.2 = (j : Int) /\ NewRow w w' t.2.1 (lowN n j) /\ Pu w w') ⟨by simp, rfl, NewRow.nil w w, Pu.refl _⟩ ?_
  rintro j J ⟨t1, t2, t3⟩ w2 hj ⟨h1, h3, hr, hp⟩ hJ
  obtain rfl : t1 = ((n / 256 ^ j : Nat) : Int) := h1
  obtain rfl : t3 = (j : Int) := h3
  have hr : NewRow w w2 t2 (lowN n j) := hr
  dsimp only
  refine Br.of (fun d => ⟨rfl, by decide, ?_⟩) (fun d => ?_)
  · have hj2 : j < k := by have := dtrue d; omega
    have em : ((n / 256 ^ j : Nat) : Int).tmod 256 = ((n / 256 ^ j % 256 : Nat) : Int) := tmod_nat _ 256
    have ed : ((n / 256 ^ j : Nat) : Int).tdiv 256 = ((n / 256 ^ (j + 1) : Nat) : Int) := by
      rw [show ((256 : Int)) = ((256 : Nat) : Int) from rfl, tdiv_nat, Nat.pow_succ, ← Nat.div_div_eq_div_mul]
    have hle : n / 256 ^ (j + 1) <= n := Nat.div_le_self _ _
    have hz := Int.natCast_nonneg (n / 256 ^ (j + 1))
    rw [em, wrap_byte]
    refine alB fun w3 hp3 hb3 => ?_
    obtain ⟨s', w4, e4, hr4, hp4⟩ := (hr.pu hp3).cat (hp.trans hp3) (m := ⟨some ⟨w2.heap.size, 0, none⟩, 1, 1⟩) (news := [byteI ((n / 256 ^ j % 256 : Nat) : Int)]) rfl (box_cells hb3 rfl) (by rw [lowN_len]; simp; omega)
    refine ⟨s', w4, e4, rfl, by decide, ?_⟩
    rw [ed, wrap_in (by omega) (by omega), wrap_in (by omega) (by omega)]
    refine hJ _ _ hj2 ⟨rfl, by dsimp only; omega, ?_, hp4⟩
    dsimp only
    rw [lowN_succ]
    rw [byteI_nat, Nat.mod_mod] at hr4
    exact hr4
  · have hj2 : j = k := by have := dfalse d; omega
    subst hj2
    exact ⟨t2, rfl, hr, hp⟩
theorem rLetter_c (k : Int) (w : World) : Calls Tryz.prog 107 #[.int .i64 k] w fun e w' => e = .returned (u8V (letterB k)) /\ Pu w w' := by
  refine F107_calls _ w _ (Br.of (fun d => ⟨?_, Pu.refl w⟩) (fun d => Br.of (fun d1 => ⟨?_, Pu.refl w⟩) (fun d1 => Br.of (fun d2 => ⟨?_, Pu.refl w⟩) (fun d2 => Br.of (fun d3 => ⟨?_, Pu.refl w⟩) (fun d3 => ⟨?_, Pu.refl w⟩)))))
  · unfold letterB; rw [if_pos (btrue d)]; rfl
  · unfold letterB; rw [if_neg (bfalse d), if_pos (btrue d1)]; rfl
  · unfold letterB; rw [if_neg (bfalse d), if_neg (bfalse d1), if_pos (btrue d2)]; rfl
  · unfold letterB; rw [if_neg (bfalse d), if_neg (bfalse d1), if_neg (bfalse d2), if_pos (btrue d3)]; rfl
  · unfold letterB; rw [if_neg (bfalse d), if_neg (bfalse d1), if_neg (bfalse d2), if_neg (bfalse d3)]; rfl
theorem rHeadLoop_c {ww w1 w : World} (hww : Pu ww w1) {r1 : Nat} {t : Tbl} {f r l : SV} {acc : List UInt8} (hb1 : w1.heap[r1]? = some (.cells #[.int .i64 t.page, .slice f.a f.len f.cap, .slice r.a r.len r.cap] 35)) (h : RdSl w1 f t.fields) (hall : t.fields.all fieldB = true) (hn : t.fields.length <= 16) (hp0 : Pu w1 w) (hr : NewRow w1 w l acc) (ha : acc.length <= 100) :
    F60_11 (fun e w' => ∃ q : SV, e = .returned (.slice q.a q.len q.cap) /\ NewRow ww w' q (acc ++ t.fields.flatMap fieldS ++ [13]) /\ Pu ww w') (some ⟨r1, 0, none⟩) l 0 [] w := by
  have hlen := h.len
  have n10 : ∀ g ∈ t.fields, g.name.size <= 10 := fun g hg => (field_parts (List.all_eq_true.1 hall g hg)).2.1
  refine loopUp t.fields.length (fun k u w' => u.2 = (k : Int) /\ NewRow w1 w' u.1 (acc ++ (t.fields.take k).flatMap fieldS) /\ Pu w1 w') ⟨rfl, by simpa using hr, hp0⟩ ?_
  rintro k J ⟨u1, u2⟩ w2 hk ⟨hu2, hr2, hp⟩ hJ
  obtain rfl : u2 = (k : Int) := hu2
  have hr2 : NewRow w1 w2 u1 (acc ++ (t.fields.take k).flatMap fieldS) := hr2
  have hfl := flatMap_le (l := t.fields.take k) fun g hg => n10 g (List.mem_of_mem_take hg)
  have htl := List.length_take_le k t.fields
  dsimp only
  refine ⟨_, cl (hp.blk hb1) 1, Br.of (fun d => ?_) (fun d => ?_)⟩
  · have hk2 : k < t.fields.length := by have := dtrue d; omega
    obtain ⟨g, hg⟩ := at_k hk2
    have g10 := n10 g (List.mem_of_getElem? hg)
    obtain ⟨a, ha', hi, _, _, _, c0, c1, c2, c3⟩ := fldAt (h.pu hp) hg
    refine ⟨_, cl (hp.blk hb1) 1, a, ha', by omega, by omega, _, c0, _, c1, _, c2, _, c3, boxA rfl s23.symm rfl fun w3 hp3 hs3 hb3 => ⟨_, cl0 hb3, ?_⟩⟩
    obtain ⟨m, w4, e4, hp4, hm⟩ := conv_mark g.name (by omega) w3
    refine ⟨m, w4, e4, ?_⟩
    refine loopUp (10 - g.name.size) (fun j s w' => ByRow w3 w' s (g.name.data.toList ++ List.replicate j 0) /\ Pu w3 w') ⟨by simpa using hm, hp4⟩ ?_
    rintro j J2 q w5 hj ⟨hq, hp5⟩ hJ2
    have hql := hq.len
    rw [List.length_append, size_list, List.length_replicate] at hql
    refine Br.of (fun d1 => alB fun w6 hp6 hb6 => ?_) (fun d1 => ?_)
    · have := dtrue d1
      obtain ⟨q', w7, e7, r7, p7⟩ := (hq.pu hp6).push (hp5.trans hp6) (b := 0) hb6 rfl (by rw [List.length_append, size_list, List.length_replicate]; omega)
      exact ⟨q', w7, e7, hJ2 _ _ (by omega) ⟨by rw [List.replicate_succ', ← List.append_assoc]; exact r7, p7⟩⟩
    have := dfalse d1
    have hj10 : j = 10 - g.name.size := by omega
    subst hj10
    clear hJ2 J2
    have hb5 := hp5.blk hb3
    have p5 : Pu w1 w5 := (hp.trans hp3).trans hp5
    have hr5 := (hr2.pu hp3).pu hp5
    have fin : ∀ (z : Int), (Value.int .u8 z) = u8V (nullB g.null) -> ∃ l64 : SV, ∃ w6 : World, (Builtin.append_ #[37, 37] 37 #[.slice u1.a u1.len u1.cap, .slice q.a q.len q.cap]).run Tryz.prog w5 = .ok (.slice l64.a l64.len l64.cap) w6 /\
        dwE w6 fun w7 => ∃ S1 : World -> Prop, S1 w7 /\ ptrE (some (⟨w2.heap.size, 0, none⟩ : Addr)) fun a7 => ∃ n67 : Int, (∀ w', S1 w' -> w'.cell? (a7.add 1) = some (.int .i64 n67)) /\
        ptrE (some (⟨w2.heap.size, 0, none⟩ : Addr)) fun a8 => ∃ n70 : Int, (∀ w', S1 w' -> w'.cell? (a8.add 2) = some (.int .i64 n70)) /\
        Calls Tryz.prog 107 #[.int .i64 n67] w7 fun e w9 => ∃ n68 : Int, e = .returned (.int .u8 n68) /\ S1 w9 /\
        alE (.cells #[.int .u8 n68, .int .u8 (IntKind.u8.wrap n70), .int .u8 z, .int .u8 0, .int .u8 0, .int .u8 0] 5) w9 fun r73 w10 =>
        ∃ l74 : SV, ∃ w11 : World, (Builtin.append_ #[37, 37] 37 #[.slice l64.a l64.len l64.cap, .slice (some ⟨r73, 0, none⟩) 6 6]).run Tryz.prog w10 = .ok (.slice l74.a l74.len l74.cap) w11 /\ J (l74, IntKind.i64.wrap ((k : Int) + 1)) w11 := fun z hz => by
      obtain ⟨l64, w6, e6, r6, f6⟩ := hr5.app p5.size (m := q) (news := g.name.data.toList ++ List.replicate (10 - g.name.size) 0) hq.len (fun j b hj => hq.cell hj) (by simp only [List.length_append, size_list, List.length_replicate]; omega)
      have p6 : Pu w1 w6 := p5.andNew f6 fun i hi => hr2.2 i hi
      refine ⟨l64, w6, e6, dwE_intro fun w7 hp7 _ => ?_⟩
      have hb6 := f6.blk hb5 fun hc => by have := hr2.1.lt _ hc; omega
      have hb7 := hp7.blk hb6
      refine ⟨fun u => Pu w7 u, Pu.refl _, g.kind, fun u hu => cl (hu.blk hb7) 1, g.width, fun u hu => cl (hu.blk hb7) 2, (rLetter_c g.kind w7).mono ?_⟩
      rintro e w8 ⟨rfl, hp8⟩
      refine ⟨_, rfl, hp8, ?_⟩
      rw [wrap_byte, hz]
      refine alB fun w9 hp9 hb9 => ?_
      have p9 : Pu w1 w9 := ((p6.trans hp7).trans hp8).trans hp9
      obtain ⟨l74, w10, e10, r10, p10⟩ := (((r6.pu hp7).pu hp8).pu hp9).cat p9 (m := ⟨some ⟨w8.heap.size, 0, none⟩, 6, 6⟩) (news := [letterB g.kind, byteI g.width, nullB g.null, 0, 0, 0]) rfl (box_cells hb9 rfl) (by simp only [List.length_append, size_list, List.length_replicate, List.length_cons, List.length_nil]; omega)
      refine ⟨l74, w10, e10, ?_⟩
      rw [wrap_in (by omega) (by omega)]
      refine hJ _ _ hk2 ⟨by dsimp only; omega, ?_, p10⟩
      dsimp only
      have ef : fieldS g = g.name.data.toList ++ List.replicate (10 - g.name.size) 0 ++ [letterB g.kind, byteI g.width, nullB g.null, 0, 0, 0] := rfl
      rw [flatMap_take hg, ef]
      simpa only [List.append_assoc] using r10
    exact ⟨_, cl hb5 3, Br.of (fun d2 => fin 1 (by rw [d2]; rfl)) (fun d2 => fin 0 (by rw [d2]; rfl))⟩
  · have hk2 : k = t.fields.length := by have := dfalse d; omega
    subst hk2
    rw [List.take_length] at hr2 hfl
    refine alB fun w3 hp3 hb3 => ?_
    obtain ⟨q, w4, e4, r4, p4⟩ := (hr2.pu hp3).cat (hp.trans hp3) (m := ⟨some ⟨w2.heap.size, 0, none⟩, 1, 1⟩) (news := [13]) rfl (box_cells hb3 rfl) (by simp only [List.length_append, List.length_singleton]; omega)
    exact ⟨q, w4, e4, q, rfl, r4.low hww.size, hww.trans p4⟩
theorem rHeader_c {w : World} {t : Tbl} {f r : SV} (h : RdTbl w t f r) (hvf : validF t.fields = 0) (hrl : t.recs.length <= 1000000) : Calls Tryz.prog 60 #[tblA t f r] w fun e w' => ∃ q : SV, e = .returned (.slice q.a q.len q.cap) /\ NewRow w w' q (headS t) /\ Pu w w' := by
  obtain ⟨_, hall, _, h16, hw2⟩ := validF_ok hvf
  have hfl := h.fields.len
  have hrl' := h.recs.len
  have hwide : 0 <= wide t.fields := by
    have := sum_le (WOk.of hall); unfold wide; omega
  refine F60_calls _ _ _ w _ (alB fun w1 hp1 hb1 => ⟨_, cl0 hb1, ?_⟩)
  rw [wrap_byte]
  refine alB fun w2 hp2 hb2 => ⟨_, cl (hp2.blk hb1) 2, ?_⟩
  have r2 : NewRow w1 w2 ⟨some ⟨w1.heap.size, 0, none⟩, 2, 2⟩ [67, byteI t.page] := NewRow.box (l := [67, byteI t.page]) hb2 (Nat.le_refl _) (by simp)
  rw [hrl']
  refine (rLow_c t.recs.length 4 (by omega) (by omega) w2).mono ?_
  rintro e w3 ⟨m3, rfl, hm3, hp3⟩
  obtain ⟨l4, w4, e4, r4, p4⟩ := (r2.pu hp3).cat (hp2.trans hp3) (m := m3) hm3.len (fun j b hj => hm3.cell hj) (by simp [lowN_len])
  refine ⟨m3, rfl, l4, w4, e4, _, cl (p4.blk hb1) 1, ?_⟩
  rw [hfl, wrap_in (n := 16 * ((t.fields.length : Nat) : Int)) (by omega) (by omega), wrap_in (n := 13 + 16 * ((t.fields.length : Nat) : Int)) (by omega) (by omega), show 13 + 16 * ((t.fields.length : Nat) : Int) = ((13 + 16 * t.fields.length : Nat) : Int) by omega]
  refine (rLow_c (13 + 16 * t.fields.length) 2 (by omega) (by omega) w4).mono ?_
  rintro e w5 ⟨m5, rfl, hm5, hp5⟩
  obtain ⟨l6, w6, e6, r6, p6⟩ := (r4.pu hp5).cat (p4.trans hp5) (m := m5) hm5.len (fun j b hj => hm5.cell hj) (by simp [lowN_len])
  refine ⟨m5, rfl, l6, w6, e6, _, cl (p6.blk hb1) 1, (rWide_c (h.fields.pu (hp1.trans p6)) (WOk.of hall)).mono ?_⟩
  rintro e w7 ⟨rfl, hp7⟩
  refine ⟨_, rfl, ?_⟩
  rw [show (Value.int .i64 (wide t.fields)) = .int .i64 (((wide t.fields).toNat : Nat) : Int) by congr 1; omega]
  refine (rLow_c (wide t.fields).toNat 2 (by omega) (by omega) w7).mono ?_
  rintro e w8 ⟨m8, rfl, hm8, hp8⟩
  obtain ⟨l9, w9, e9, r9, p9⟩ := ((r6.pu hp7).pu hp8).cat ((p6.trans hp7).trans hp8) (m := m8) hm8.len (fun j b hj => hm8.cell hj) (by simp [lowN_len])
  refine ⟨m8, rfl, l9, w9, e9, _, cl (p9.blk hb1) 1, ?_⟩
  rw [hfl, wrap_byte]
  refine alB fun w10 hp10 hb10 => ?_
  obtain ⟨l11, w11, e11, r11, p11⟩ := (r9.pu hp10).cat (p9.trans hp10) (m := ⟨some ⟨w9.heap.size, 0, none⟩, 2, 2⟩) (news := [byteI ((t.fields.length : Nat) : Int), 0]) rfl (box_cells hb10 rfl) (by simp [lowN_len])
  refine ⟨l11, w11, e11, ?_⟩
  have := rHeadLoop_c hp1 hb1 (h.fields.pu hp1) hall h16 p11 r11 (by simp [lowN_len])
  unfold headS
  exact this
theorem add_bit : ∀ r : Nat, r < 8 -> ∀ x : Nat, x < 2 ^ r -> IntKind.u8.wrap ((x : Int) + IntKind.u8.wrap ((1 : Int) * 2 ^ (min r 8))) = ((x + 2 ^ r : Nat) : Int) := by decide +kernel
theorem rRow_c {w : World} {l : List Fld} {s t : SV} {r : Rec} {p : Int} (h : RdSl w s l) (hr : RdSl w t r.v) (hall : l.all fieldB = true) (h16 : l.length <= 16) (hR : RightR l p r.v) :
    Calls Tryz.prog 61 #[.slice s.a s.len s.cap, .agg #[.bool r.gone, .slice t.a t.len t.cap]] w fun e w' => ∃ q : SV, e = .returned (.slice q.a q.len q.cap) /\ NewRow w w' q (rowS shownS l r) /\ Pu w w' := by
  refine F61_calls _ _ _ w _ ?_
  have hsl := h.len
  have htl := hr.len
  have hl := hR.1
  have hnl := nulls_le l
  have hN0 : (nulls l) = ((l.filter (·.null)).length + 7) / 8 := rfl
  have hwid := WOk.of hall
  have hW := hR.writes hall
  refine alB fun w1 hp1 hb1 => alB fun w2 hp2 hb2 => ⟨_, cl0 (hp2.blk hb1), ?_⟩
  have l1 : w.heap.size < w1.heap.size := blk_lt hb1
  have main : ∀ {w3 : World}, Pu w1 w3 -> w3.heap[w1.heap.size]? = some (.cells #[u8V (goneB r.gone)] 5) ->
      Calls Tryz.prog 72 #[.slice s.a s.len s.cap] w3 fun e w38 => ∃ n16 : Int, e = .returned (.int .i64 n16) /\ ∃ l17 : SV, ∃ w39 : World, (Instr.makeSlice 37 (.int .i64 n16) (.int .i64 n16)).run Tryz.prog w38 = .ok (.slice l17.a l17.len l17.cap) w39 /\
        F61_8 (fun e w' => ∃ q : SV, e = .returned (.slice q.a q.len q.cap) /\ NewRow w w' q (rowS shownS l r) /\ Pu w w') s (some (⟨w.heap.size, 0, none⟩ : Addr)) ⟨(some ⟨w1.heap.size, 0, none⟩), 1, 1⟩ l17 0 0 [] w39 := fun {w3} hp3 hb3 => by
    refine (rNulls_c (h.pu (hp1.trans hp3))).mono ?_
    rintro e w4 ⟨rfl, hp4⟩
    obtain ⟨i, i1, i2, i3, i4⟩ := info_parts info5
    obtain ⟨w5, e5, row5, hp5, s5⟩ := row_make (P := Tryz.prog) (w := w4) u37 i1 i2 i3 .i64 .i64 (nulls l) (by rw [i4]; omega) (by omega)
    refine ⟨_, rfl, ⟨some ⟨w4.heap.size, 0, none⟩, nulls l, nulls l⟩, w5, e5, ?_⟩
    have fl5 : NewRow w4 w5 ⟨some ⟨w4.heap.size, 0, none⟩, nulls l, nulls l⟩ (flN (nulls l) []) := by
      refine ⟨?_, fun b hb => by simp [blkOf] at hb; omega⟩
      rw [flN_nil, List.map_replicate]
      rw [show (Value.int IntKind.u8 0).cells = #[.int .u8 0] from rfl, toList_madeCells_one, Nat.mul_one] at row5
      exact row5
    have hl6len : (⟨some ⟨w4.heap.size, 0, none⟩, nulls l, nulls l⟩ : SV).len = nulls l := rfl
    generalize hq6 : (⟨some ⟨w4.heap.size, 0, none⟩, nulls l, nulls l⟩ : SV) = l6 at *
    have p4 : Pu w1 w4 := hp3.trans hp4
    refine loopUp l.length (fun k u w' => u.2 = (k : Int) /\ u.1 = ((nbits (l.take k) (r.v.take k)).length : Nat) /\ NewRow w4 w' l6 (flN (nulls l) (nbits (l.take k) (r.v.take k))) /\ Pu w4 w') ⟨rfl, rfl, fl5, hp5⟩ ?_
    rintro k J ⟨u1, u2⟩ w7 hk ⟨hu2, hu1, hfl, hp⟩ hJ
    obtain rfl : u2 = (k : Int) := hu2
    obtain rfl : u1 = ((nbits (l.take k) (r.v.take k)).length : Nat) := hu1
    have q7 : Pu w1 w7 := p4.trans hp
    have hb7 := q7.blk hb1
    dsimp only
    refine Br.of (fun d => ?_) (fun d => ?_)
    · have hk2 : k < l.length := by have := dtrue d; omega
      obtain ⟨f, hf⟩ := at_k hk2
      obtain ⟨v, hv⟩ := at_k (show k < r.v.length by omega)
      obtain ⟨a, ha, hi, _, _, _, k0, k1, k2, k3⟩ := fldAt (h.pu (hp1.trans q7)) hf
      have hns := nbits_snoc hf hv
      have hnb := nbits_len (l.take k) (r.v.take k)
      have hft := filter_take_le l k
      have hfl2 := List.length_filter_le (·.null) l
      refine ⟨a, ha, by omega, by omega, _, k3, Br.of (fun d1 => ?_) (fun d1 => ?_)⟩
      · have d1 : f.null = false := by simpa using d1
        rw [if_neg (by rw [d1]; simp), List.append_nil] at hns
        rw [wrap_in (n := (k : Int) + 1) (by omega) (by omega)]
        exact hJ _ _ hk2 ⟨by dsimp only; omega, by dsimp only; rw [hns], by rw [hns]; exact hfl, hp⟩
      have d1 : f.null = true := by simpa using d1
      obtain ⟨m, hm, hmi, _, _, v0, v1, v2⟩ := valAt (hr.pu (hp1.trans q7)) hv
      rw [add0] at v0
      refine ⟨t, cl hb7 1, m, hm, by omega, by omega, _, v0, Br.of (fun d2 => ?_) (fun d2 => ?_)⟩
      · rw [if_pos d1, decide_eq_true (btrue d2)] at hns
        generalize hbits : nbits (l.take k) (r.v.take k) = bits at *
        have hm1 : bits.length + 1 <= (l.filter (·.null)).length := by
          have h1 := nbits_len (l.take (k + 1)) (r.v.take (k + 1))
          have h2 := filter_take_le l (k + 1)
          rw [hns] at h1; simp only [List.length_append, List.length_singleton] at h1; omega
        obtain ⟨q, ρ, hqr, hρ⟩ : ∃ q ρ, bits.length = 8 * q + ρ /\ ρ < 8 := ⟨bits.length / 8, bits.length % 8, by omega, by omega⟩
        have hqN : q < nulls l := by omega
        have e1 : ((bits.length : Nat) : Int).tdiv 8 = (q : Int) := by rw [Int.tdiv_eq_ediv_of_nonneg (by omega)]; omega
        have e2 : ((bits.length : Nat) : Int).tmod 8 = (ρ : Int) := by rw [Int.tmod_eq_emod_of_nonneg (by omega)]; omega
        rw [e1, e2, wrap_in (n := (q : Int)) (by omega) (by omega), wrap_in (n := ((bits.length : Nat) : Int) + 1) (by omega) (by omega), wrap_in (n := (k : Int) + 1) (by omega) (by omega)]
        refine dwE_intro fun w10 hp10 hh10 => ?_
        have fl10 : NewRow w4 w10 l6 (flN (nulls l) bits) := hfl.pu hp10
        have hbl := byteAt_lt hqr hρ
        have hpow : 2 ^ ρ <= 128 := by
          rcases (by omega : ρ = 0 ∨ ρ = 1 ∨ ρ = 2 ∨ ρ = 3 ∨ ρ = 4 ∨ ρ = 5 ∨ ρ = 6 ∨ ρ = 7) with rfl | rfl | rfl | rfl | rfl | rfl | rfl | rfl <;> decide
        obtain ⟨a6, ha6, hc6⟩ := fl10.cell (flN_at hqN)
        have ebyte : u8V (UInt8.ofNat (byteAt bits q)) = .int .u8 ((byteAt bits q : Nat) : Int) := by
          unfold u8V; congr 2; simp; omega
        rw [ebyte] at hc6
        refine ⟨rfl, by decide, a6, ha6, by omega, by omega, _, by rw [Int.toNat_natCast, Nat.mul_one]; exact hc6, rfl, by decide, by omega, ?_⟩
        rw [Int.toNat_natCast, Int.toNat_natCast, Nat.mul_one, add_bit ρ hρ _ hbl]
        have ev : (Value.int .u8 ((byteAt bits q + 2 ^ ρ : Nat) : Int)) = u8V (UInt8.ofNat (byteAt bits q + 2 ^ ρ)) := by
          unfold u8V; congr 2; simp; omega
        rw [ev]
        obtain ⟨a7, ha7, hst⟩ := fl10.1.st1 (j := q) (by simp [flN_len]; exact hqN) (u8V (UInt8.ofNat (byteAt bits q + 2 ^ ρ))) (K := fun w15 => J (((bits.length : Nat) : Int) + 1, (k : Int) + 1) w15) fun w11 hr11 hf11 hs11 => by
          rw [← List.map_set, ← flN_true hqr hρ hqN] at hr11
          refine hJ _ _ hk2 ⟨by dsimp only; omega, by dsimp only; rw [hns]; simp, by rw [hns]; exact ⟨hr11, hfl.2⟩, (hp.trans hp10).andNew hf11 fun i hi => hfl.2 i hi⟩
        exact ⟨a7, ha7, by omega, by omega, hst⟩
      · rw [if_pos d1, decide_eq_false (bfalse d2)] at hns
        rw [wrap_in (n := ((nbits (l.take k) (r.v.take k)).length : Int) + 1) (by omega) (by omega), wrap_in (n := (k : Int) + 1) (by omega) (by omega)]
        exact hJ _ _ hk2 ⟨by dsimp only; omega, by dsimp only; rw [hns]; simp, by rw [hns, flN_false]; exact hfl, hp⟩
    · have hk2 : k = l.length := by have := dfalse d; omega
      subst hk2
      clear hJ J
      rw [List.take_length, List.take_of_length_le (show r.v.length <= l.length by omega)] at hfl
      have out : NewRow w1 w7 ⟨some ⟨w1.heap.size, 0, none⟩, 1, 1⟩ [goneB r.gone] := NewRow.box (l := [goneB r.gone]) ((hp4.trans hp).blk hb3) (Nat.le_refl _) (by simp)
      obtain ⟨l5, w8, e8, r8, p8⟩ := out.cat q7 (m := l6) (news := flN (nulls l) (nbits l r.v)) hfl.len (fun j b hj => hfl.cell hj) (by simp only [List.length_singleton, flN_len]; omega)
      refine ⟨l5, w8, e8, ?_⟩
      refine loopUp l.length (fun k u w' => u.2 = (k : Int) /\ NewRow w1 w' u.1 ([goneB r.gone] ++ flN (nulls l) (nbits l r.v) ++ cellsS shownS (l.take k) (r.v.take k)) /\ Pu w1 w') ⟨rfl, by simpa [cellsS] using r8, p8⟩ ?_
      rintro k J ⟨u1, u2⟩ w9 hk ⟨hu2, hr9, hp9⟩ hJ
      obtain rfl : u2 = (k : Int) := hu2
      have hr9 : NewRow w1 w9 u1 ([goneB r.gone] ++ flN (nulls l) (nbits l r.v) ++ cellsS shownS (l.take k) (r.v.take k)) := hr9
      have hcl := cellsS_len hwid hW k hk (by omega)
      dsimp only
      refine Br.of (fun d1 => dwE_intro fun w10 hp10 _ => ?_) (fun d1 => ?_)
      · have hk2 : k < l.length := by have := dtrue d1; omega
        obtain ⟨f, hf⟩ := at_k hk2
        obtain ⟨v, hv⟩ := at_k (show k < r.v.length by omega)
        have p10 := hp9.trans hp10
        obtain ⟨a, ha, hi, _, _, _, k0, k1, k2, k3⟩ := fldAt (h.pu (hp1.trans p10)) hf
        obtain ⟨m, hm, hmi, _, _, v0, v1, v2⟩ := valAt (hr.pu (hp1.trans p10)) hv
        have hfB := List.all_eq_true.1 hall f (List.mem_of_getElem? hf)
        have hwf := field_width hfB
        refine ⟨a, ha, by omega, by omega, _, k0, _, k1, _, k2, _, k3, t, cl (p10.blk hb1) 1, m, hm, by omega, by omega, _, v0, _, v1, _, v2, (rShown_c hfB (hR.2 k f v hf hv) w10).mono ?_⟩
        rintro e w11 ⟨rfl, hp11⟩
        have hsl2 := (hR.2 k f v hf hv).len
        obtain ⟨mm, w12, e12, hp12, hm12⟩ := conv_mark (bs (shownS f v)) (by rw [bs_size]; omega) w11
        rw [bs_list] at hm12
        obtain ⟨q, w13, e13, r13, p13⟩ := (((hr9.pu hp10).pu hp11).pu hp12).cat ((p10.trans hp11).trans hp12) (m := mm) (news := shownS f v) hm12.len (fun j b hj => hm12.cell hj) (by simp only [List.length_append, List.length_singleton, flN_len]; omega)
        refine ⟨_, rfl, mm, w12, e12, q, w13, e13, ?_⟩
        rw [wrap_in (by omega) (by omega)]
        refine hJ _ _ hk2 ⟨by dsimp only; omega, ?_, p13⟩
        dsimp only
        rw [cellsS_take hf hv, cellS_shown]
        simpa only [List.append_assoc] using r13
      · have hk2 : k = l.length := by have := dfalse d1; omega
        subst hk2
        rw [List.take_length, List.take_of_length_le (show r.v.length <= l.length by omega)] at hr9
        exact ⟨u1, rfl, hr9.low hp1.size, hp1.trans hp9⟩
  refine Br.of (fun d => ⟨_, rfl, by omega, by omega, ?_⟩) (fun d => main hp2 (by rw [d]; exact hb2))
  show st1 ((⟨w1.heap.size, 0, none⟩ : Addr).add 0) _ w2 _
  rw [add_def]
  refine st1_intro hb2 (by decide) fun w3 hw3 hb3 => main ?_ (by rw [d]; exact hb3)
  exact hp2.andNew (B := (· = w1.heap.size)) (by rw [hw3]; exact Fr.cell w2 _ 0 _) fun i hi => by omega
end Go.Proofs.YtecmfdfhpldmmaaGreatDoor

/- Table: the bytes of a table; the law on them. No condition. -/
set_option maxRecDepth 100000
set_option linter.unusedVariables false
set_option linter.unusedSimpArgs false
namespace Go.Proofs.YtecmfdfhpldmmaaGreatDoor
open Go.Sh Go.RowKit
noncomputable def bytesS (t : Tbl) : List UInt8 := headS t ++ t.recs.flatMap (rowS shownS t.fields) ++ [26]
noncomputable def bytesOut (t : Tbl) : List UInt8 := if validT t = 0 then bytesS t else []
structure Okay (t : Tbl) : Prop where
  page : pageB t.page = true
  vf : validF t.fields = 0
  ne : t.fields ≠ []
  all : t.fields.all fieldB = true
  n16 : t.fields.length <= 16
  w2 : wide t.fields <= 2000
  m300 : t.recs.length <= 300
  recs : ∀ x ∈ t.recs, RightR t.fields t.page x.v
theorem Okay.of {t : Tbl} (h : validT t = 0) : Okay t := by
  obtain ⟨hpg, hvf, h300, hfb⟩ := validT_ok h
  obtain ⟨h0, hall, _, h16, hw⟩ := validF_ok hvf
  exact ⟨hpg, hvf, h0, hall, h16, hw, h300, fun x hx => RightR.of hall (firstBad_all hfb x hx)⟩
theorem headS_le {t : Tbl} (h : Okay t) : (headS t).length = 13 + 16 * t.fields.length := by
  have : ∀ {l : List Fld}, l.all fieldB = true -> (l.flatMap fieldS).length = 16 * l.length := by
    intro l
    induction l with
    | nil => intro _; rfl
    | cons f l ih =>
      intro hl
      rw [List.flatMap_cons, List.length_append, fieldS_len (field_parts (List.all_eq_true.1 hl f (by simp))).2.1, ih (List.all_eq_true.2 fun g hg => List.all_eq_true.1 hl g (by simp [hg])), List.length_cons]
      omega
  unfold headS
  simp only [List.length_append, lowN_len, List.length_cons, List.length_nil, this h.all]
  omega
theorem rows_len {t : Tbl} (h : Okay t) : ∀ k, k <= t.recs.length -> (((t.recs.take k).flatMap (rowS shownS t.fields)).length : Int) = k * wide t.fields
  | 0, _ => by simp
  | k + 1, hk => by
    obtain ⟨x, hx⟩ := at_k (show k < t.recs.length by omega)
    rw [take_at hx, List.flatMap_append, List.length_append, List.flatMap_cons, List.flatMap_nil, List.append_nil]
    have h1 := rows_len h k (by omega)
    have h2 := rowS_len h.all (h.recs x (List.mem_of_getElem? hx))
    rw [Int.natCast_add, h1, h2, Int.natCast_add, Int.add_mul]; omega
theorem flatMap_snoc {α β : Type} (g : α -> List β) {l : List α} {k : Nat} {x : α} (h : l[k]? = some x) : (l.take (k + 1)).flatMap g = (l.take k).flatMap g ++ g x := by
  rw [take_at h, List.flatMap_append]; simp
theorem rows_le {t : Tbl} (h : Okay t) (k : Nat) (hk : k <= t.recs.length) : ((t.recs.take k).flatMap (rowS shownS t.fields)).length <= 600000 := by
  have h1 := rows_len h k hk
  have h2 := h.m300
  have h3 := h.w2
  have h4 : (k : Int) * wide t.fields <= 300 * 2000 := by
    have hw : 0 <= wide t.fields := by have := sum_le (WOk.of h.all); unfold wide; omega
    exact Int.mul_le_mul (by omega) h3 hw (by omega)
  omega
theorem tblBytes_c {w : World} {t : Tbl} {f r : SV} (h : RdTbl w t f r) (ho : Okay t) : Calls Tryz.prog 59 #[tblA t f r] w fun e w' => ∃ q : SV, e = .returned (.slice q.a q.len q.cap) /\ NewRow w w' q (bytesS t) /\ Pu w w' := by
  have hm := ho.m300
  have h16 := ho.n16
  have hrl := h.recs.len
  have hh := headS_le ho
  refine F59_calls _ _ _ w _ (alB fun w1 hp1 hb1 => ⟨_, cl hb1 0, _, cl hb1 1, _, cl hb1 2, (header_c (h.pu hp1) ho.vf (by omega)).mono ?_⟩)
  rintro e w2 ⟨q, rfl, hq, hp2⟩
  refine ⟨q, rfl, _, cl (hp2.blk hb1) 2, ?_⟩
  refine loopUp t.recs.length (fun k u w' => u.2 = (k : Int) /\ NewRow w1 w' u.1 (headS t ++ (t.recs.take k).flatMap (rowS shownS t.fields)) /\ Pu w1 w') ⟨rfl, by simpa using hq, hp2⟩ ?_
  rintro k J ⟨u1, u2⟩ w3 hk ⟨hu2, hr, hp⟩ hJ
  obtain rfl : u2 = (k : Int) := hu2
  have hr : NewRow w1 w3 u1 (headS t ++ (t.recs.take k).flatMap (rowS shownS t.fields)) := hr
  have hrs := rows_le ho k hk
  dsimp only
  refine Br.of (fun d => ?_) (fun d => ?_)
  · have hk2 : k < t.recs.length := by have := dtrue d; omega
    obtain ⟨x, hx⟩ := at_k hk2
    have hR := ho.recs x (List.mem_of_getElem? hx)
    obtain ⟨a, s, ha, hi, hs, c0, c1⟩ := recAt (h.recs.pu (hp1.trans hp)) hx
    refine ⟨a, ha, by omega, by omega, _, c0, s, c1, boxA rfl s46.symm rfl fun w4 hp4 hs4 hb4 => ⟨_, cl ((hp.trans hp4).blk hb1) 1, _, cl hb4 0, s, cl hb4 1, ?_⟩⟩
    refine (row_c (sh := shownS) (r := x) (h.fields.pu (hp1.trans (hp.trans hp4))) (hs.pu hp4) hR.1 h16 (WOk.of ho.all) (hR.writes ho.all) (hR.ne ho.all ho.ne)).mono ?_
    rintro e w5 ⟨m, rfl, hm5, hp5⟩
    have hl5 := rowS_len ho.all hR
    have hw2 := ho.w2
    obtain ⟨q', w6, e6, r6, p6⟩ := ((hr.pu hp4).pu hp5).cat ((hp.trans hp4).trans hp5) (m := m) hm5.len (fun j b hj => hm5.cell hj) (by rw [List.length_append]; omega)
    refine ⟨m, rfl, q', w6, e6, ?_⟩
    rw [wrap_in (by omega) (by omega)]
    refine hJ _ _ hk2 ⟨by dsimp only; omega, ?_, p6⟩
    dsimp only
    rw [flatMap_snoc _ hx, ← List.append_assoc]; exact r6
  · have hk2 : k = t.recs.length := by have := dfalse d; omega
    subst hk2
    rw [List.take_length] at hr hrs
    refine alB fun w4 hp4 hb4 => ?_
    obtain ⟨q', w5, e5, r5, p5⟩ := (hr.pu hp4).cat (hp.trans hp4) (m := ⟨some ⟨w3.heap.size, 0, none⟩, 1, 1⟩) (news := [26]) rfl (box_cells hb4 rfl) (by rw [List.length_append, List.length_singleton]; omega)
    exact ⟨q', w5, e5, q', rfl, r5.low hp1.size, hp1.trans p5⟩
theorem rBytes_c {w : World} {t : Tbl} {f r : SV} (h : RdTbl w t f r) : Calls Tryz.prog 18 #[tblA t f r] w fun e w' => ∃ q : SV, e = .returned (.tuple #[.slice q.a q.len q.cap, .int .i64 (validT t)]) /\ NewRow w w' q (bytesOut t) /\ Pu w w' := by
  refine F18_calls _ _ _ w _ (alB fun w1 hp1 hb1 => ⟨_, cl hb1 0, _, cl hb1 1, _, cl hb1 2, (rValidTbl_c (h.pu hp1)).mono ?_⟩)
  rintro e w2 ⟨rfl, hp2⟩
  have b2 := hp2.blk hb1
  refine ⟨_, rfl, Br.of (fun d => ⟨⟨none, 0, 0⟩, rfl, by unfold bytesOut; rw [if_neg (bntrue d)]; exact NewRow.nil w w2, hp1.trans hp2⟩) (fun d => ?_)⟩
  have hv := bnfalse d
  have ho := Okay.of hv
  have hm := ho.m300
  have h16 := ho.n16
  have hrl := h.recs.len
  have hh := headS_le ho
  refine ⟨_, cl b2 0, _, cl b2 1, _, cl b2 2, (rHeader_c (h.pu (hp1.trans hp2)) ho.vf (by omega)).mono ?_⟩
  rintro e w3 ⟨q, rfl, hq, hp3⟩
  refine ⟨q, rfl, ?_⟩
  refine loopUp t.recs.length (fun k u w' => u.2 = (k : Int) /\ NewRow w1 w' u.1 (headS t ++ (t.recs.take k).flatMap (rowS shownS t.fields)) /\ Pu w1 w') ⟨rfl, by simpa using hq.low hp2.size, hp2.trans hp3⟩ ?_
  rintro k J ⟨u1, u2⟩ w4 hk ⟨hu2, hr, hp⟩ hJ
  obtain rfl : u2 = (k : Int) := hu2
  have hr : NewRow w1 w4 u1 (headS t ++ (t.recs.take k).flatMap (rowS shownS t.fields)) := hr
  have hrs := rows_le ho k hk
  dsimp only
  refine ⟨_, cl (hp.blk hb1) 2, Br.of (fun d1 => dwE_intro fun w5 hp5 _ => ?_) (fun d1 => ?_)⟩
  · have hk2 : k < t.recs.length := by have := dtrue d1; omega
    obtain ⟨x, hx⟩ := at_k hk2
    have hR := ho.recs x (List.mem_of_getElem? hx)
    have p5 := hp.trans hp5
    obtain ⟨a, s, ha, hi, hs, c0, c1⟩ := recAt (h.recs.pu (hp1.trans p5)) hx
    refine ⟨_, cl (p5.blk hb1) 1, _, cl (p5.blk hb1) 2, a, ha, by omega, by omega, _, c0, s, c1, (rRow_c (r := x) (h.fields.pu (hp1.trans p5)) hs ho.all h16 hR).mono ?_⟩
    rintro e w6 ⟨m, rfl, hm6, hp6⟩
    have hl5 := rowS_len ho.all hR
    have hw2 := ho.w2
    obtain ⟨q', w7, e7, r7, p7⟩ := ((hr.pu hp5).pu hp6).cat (p5.trans hp6) (m := m) hm6.len (fun j b hj => hm6.cell hj) (by rw [List.length_append]; omega)
    refine ⟨m, rfl, q', w7, e7, ?_⟩
    rw [wrap_in (by omega) (by omega)]
    refine hJ _ _ hk2 ⟨by dsimp only; omega, ?_, p7⟩
    dsimp only
    rw [flatMap_snoc _ hx, ← List.append_assoc]; exact r7
  · have hk2 : k = t.recs.length := by have := dfalse d1; omega
    subst hk2
    rw [List.take_length] at hr hrs
    refine alB fun w5 hp5 hb5 => ?_
    obtain ⟨q', w6, e6, r6, p6⟩ := (hr.pu hp5).cat (hp.trans hp5) (m := ⟨some ⟨w4.heap.size, 0, none⟩, 1, 1⟩) (news := [26]) rfl (box_cells hb5 rfl) (by rw [List.length_append, List.length_singleton]; omega)
    exact ⟨q', w6, e6, q', by rw [hv], by unfold bytesOut; rw [if_pos hv]; exact r6.low hp1.size, hp1.trans p6⟩
end Go.Proofs.YtecmfdfhpldmmaaGreatDoor

/- Table: bytes that are handed in; parts of a row's bytes. No condition. -/
set_option maxRecDepth 100000
set_option linter.unusedVariables false
set_option linter.unusedSimpArgs false
namespace Go.Proofs.YtecmfdfhpldmmaaGreatDoor
open Go.Sh Go.RowKit
theorem addr2 (a : Addr) (i j : Nat) : (a.add i).add j = a.add (i + j) := by
  unfold Addr.add
  by_cases hi : i = 0
  · subst hi; simp
  · by_cases hj : j = 0
    · subst hj; simp [hi]
    · simp [hi, hj, Nat.add_assoc]
structure ByV (w : World) (s : SV) (d : List UInt8) : Prop where
  len : s.len = d.length
  cap : s.len <= s.cap
  lim : s.len <= 140737488355328
  get : ∀ (j : Nat) (b : UInt8), d[j]? = some b -> ∃ a, s.a = some a /\ w.cell? (a.add (j * 1)) = some (u8V b)
theorem ByV.pu {w w' : World} {s : SV} {d : List UInt8} (h : ByV w s d) (hp : Pu w w') : ByV w' s d := ⟨h.len, h.cap, h.lim, fun j b hj => by
  obtain ⟨a, h1, h2⟩ := h.get j b hj
  exact ⟨a, h1, hp.cell h2⟩⟩
theorem ByV.of {w : World} {s : SV} {d : List UInt8} (h : RdSl w s d) : ByV w s d := ⟨h.len, h.cap, h.lim, fun j b hj => by
  obtain ⟨a, h1, _, h2⟩ := h.u8 hj
  exact ⟨a, h1, h2⟩⟩
theorem NewRow.by {w0 w : World} {s : SV} {d : List UInt8} (h : NewRow w0 w s d) (hb : d.length <= 140737488355328) : ByV w s d := ⟨h.len, h.1.le_cap.1, by have := h.len; omega, fun j b hj => by
  obtain ⟨a, h1, h2⟩ := h.cell hj
  exact ⟨a, h1, by rw [Nat.mul_one]; exact h2⟩⟩
theorem part_at {d : List UInt8} {lo n j : Nat} {b : UInt8} (h : ((d.drop lo).take n)[j]? = some b) : d[lo + j]? = some b := by
  rw [List.getElem?_take] at h
  split at h
  · rw [List.getElem?_drop] at h; exact h
  · cases h
theorem ByV.sub {w : World} {s : SV} {d : List UInt8} (h : ByV w s d) {lo hi : Nat} (h1 : lo <= hi) (h2 : hi <= d.length) : ByV w ⟨if s.cap = lo then s.a else s.a.map (fun x => x.add (lo * 1)), hi - lo, s.cap - lo⟩ ((d.drop lo).take (hi - lo)) := by
  have hl := h.len
  have hc := h.cap
  have hm := h.lim
  refine ⟨by rw [List.length_take, List.length_drop]; show hi - lo = _; omega, by show hi - lo <= s.cap - lo; omega, by show hi - lo <= _; omega, fun j b hj => ?_⟩
  have hj2 := part_at hj
  obtain ⟨a, ha, hcell⟩ := h.get _ _ hj2
  have hlt := (List.getElem?_eq_some_iff.1 hj2).1
  have hlt2 := (List.getElem?_eq_some_iff.1 hj).1
  rw [List.length_take, List.length_drop] at hlt2
  refine ⟨a.add (lo * 1), ?_, ?_⟩
  · show (if s.cap = lo then s.a else s.a.map (fun x => x.add (lo * 1))) = _
    rw [if_neg (by omega), ha]; rfl
  · rw [addr2, show lo * 1 + j * 1 = (lo + j) * 1 by omega]; exact hcell
theorem ByV.part3 {w : World} {s : SV} {d : List UInt8} (h : ByV w s d) {lo hi : Nat} (h1 : lo <= hi) (h2 : hi <= d.length) : ∃ l : SV, (Instr.sliceAt 37 (.slice s.a s.len s.cap) (some (.int .i64 (lo : Int))) (some (.int .i64 (hi : Int))) (some (.int .i64 (hi : Int)))).run Tryz.prog w = .ok (.slice l.a l.len l.cap) w /\ ByV w l ((d.drop lo).take (hi - lo)) := by
  have hl := h.len
  have hc := h.cap
  have hm := h.lim
  have hs : (sizeOf 5).run Tryz.prog w = .ok 1 w := Tryz.sizeOf5 w
  refine ⟨⟨if hi = lo then s.a else s.a.map (fun x => x.add (lo * 1)), hi - lo, hi - lo⟩, ?_, by rw [List.length_take, List.length_drop]; show hi - lo = _; omega, Nat.le_refl _, by show hi - lo <= _; omega, fun j b hj => ?_⟩
  · simp [Instr.sliceAt, run_under u37, Instr.slice, hs, Instr.sliceBounds, Instr.sliceBound, asIntOf, show hi <= s.cap by omega, h1]
  · have hj2 := part_at hj
    obtain ⟨a, ha, hcell⟩ := h.get _ _ hj2
    have hlt2 := (List.getElem?_eq_some_iff.1 hj).1
    rw [List.length_take, List.length_drop] at hlt2
    refine ⟨a.add (lo * 1), ?_, ?_⟩
    · show (if hi = lo then s.a else s.a.map (fun x => x.add (lo * 1))) = _
      rw [if_neg (by omega), ha]; rfl
    · rw [addr2, show lo * 1 + j * 1 = (lo + j) * 1 by omega]; exact hcell
theorem conv_by {w : World} {s : SV} {d : List UInt8} (h : ByV w s d) : (convert 37 9 (.slice s.a s.len s.cap)).run Tryz.prog w = .ok (.string (bs d)) w := by
  have hl := h.len
  rw [run_convert_bytes_string w 37 9 5 _ _ _ u37 u5 u9]
  cases ha : s.a with
  | none =>
    have hd : d = [] := by
      cases d with
      | nil => rfl
      | cons b d => obtain ⟨a, h1, _⟩ := h.get 0 b rfl; rw [ha] at h1; cases h1
    subst hd
    simp [Conv.bytesToString]; rfl
  | some a =>
    have hld : (loadCells a s.len).run Tryz.prog w = .ok ((d.map fun b => ((b.toNat : Nat) : Int)).map (Value.int .u8)).toArray w := by
      have := run_loadCells_list (P := Tryz.prog) w a ((d.map fun b => ((b.toNat : Nat) : Int)).map (Value.int .u8)) (fun j v hj => by
        simp only [List.getElem?_map, Option.map_map, Option.map_eq_some_iff] at hj
        obtain ⟨b, hb, rfl⟩ := hj
        obtain ⟨a', h1, h2⟩ := h.get j b hb
        rw [ha] at h1; cases h1
        rw [Nat.mul_one] at h2; exact h2)
      simpa [hl] using this
    rw [run_bytesToString w a s.len s.cap _ hld, foldl_push_bytes]
    congr 2
    apply bytes_ext
    have e0 : ((⟨ByteArray.empty.data ++ (List.map (fun n : Int => UInt8.ofNat n.toNat) (d.map fun b => ((b.toNat : Nat) : Int))).toArray⟩ : ByteArray)).data.toList = d.map ((fun n : Int => UInt8.ofNat n.toNat) ∘ fun b => ((b.toNat : Nat) : Int)) := by
      simp [ByteArray.empty, ByteArray.emptyWithCapacity]; rfl
    refine e0.trans ?_
    show _ = d
    conv => rhs; rw [← List.map_id d]
    apply List.map_congr_left
    intro x _
    simp
def numN (d : List UInt8) : Nat := d.foldr (fun b a => a * 256 + b.toNat) 0
theorem numN_cons (b : UInt8) (d : List UInt8) : numN (b :: d) = numN d * 256 + b.toNat := rfl
theorem numN_lt : ∀ d : List UInt8, numN d < 256 ^ d.length
  | [] => by simp [numN]
  | b :: d => by
    rw [numN_cons, List.length_cons, Nat.pow_succ]
    have := numN_lt d
    have := b.toNat_lt
    omega
theorem numN_low {m : Nat} (h : m < 4294967296) : numN (lowN m 4) = m := by
  unfold lowN
  simp only [List.range, List.range.loop, List.map_cons, List.map_nil, numN_cons]
  have e : ∀ x : Nat, (UInt8.ofNat (x % 256)).toNat = x % 256 := fun x => by simp
  simp only [e, numN, List.foldr_nil]
  omega
theorem or_low {a b : Nat} (ha : a < 16777216) (hb : b < 256) : IntKind.i64.wrap ((BitVec.ofInt 64 (IntKind.i64.wrap ((a : Int) * 2 ^ 8)) ||| BitVec.ofInt 64 (IntKind.i64.wrap (b : Int))).toNat : Nat) = ((a * 256 + b : Nat) : Int) := by
  rw [wrap_in (n := (a : Int) * 2 ^ 8) (by omega) (by omega), wrap_in (n := (b : Int)) (by omega) (by omega)]
  have e1 : ((a : Int) * 2 ^ 8) = ((a * 256 : Nat) : Int) := by omega
  have e2 : (BitVec.ofInt 64 ((a * 256 : Nat) : Int) ||| BitVec.ofInt 64 (b : Int)).toNat = a * 256 + b := by
    rw [BitVec.toNat_or]
    have h1 : (BitVec.ofInt 64 ((a * 256 : Nat) : Int)).toNat = a * 256 := by rw [BitVec.ofInt_natCast, BitVec.toNat_ofNat]; omega
    have h2 : (BitVec.ofInt 64 (b : Int)).toNat = b := by rw [BitVec.ofInt_natCast, BitVec.toNat_ofNat]; omega
    rw [h1, h2]
    have := Nat.shiftLeft_add_eq_or_of_lt (i := 8) (b := b) (by omega) a
    rw [Nat.shiftLeft_eq] at this
    exact this.symm
  rw [e1, e2, wrap_in (by omega) (by omega)]
theorem number_c {w : World} {s : SV} {d : List UInt8} (h : ByV w s d) (h4 : d.length = 4) : Calls Tryz.prog 114 #[.slice s.a s.len s.cap] w fun e w' => e = .returned (.int .i64 (numN d : Nat)) /\ Pu w w' := by
  refine F114_calls _ w _ ?_
  have hl := h.len
  rw [F114_5, wrap_in (by omega) (by omega)]
  refine loopUp 4 (fun k t w' => t.1 = (numN (d.drop (4 - k)) : Nat) /\ t.2 = 3 - (k : Int) /\ Pu w w') ⟨by rw [List.drop_eq_nil_of_le (by omega)]; rfl, by dsimp only; omega, Pu.refl _⟩ ?_
  rintro k J ⟨t1, t2⟩ w2 hk ⟨h1, h2, hp⟩ hJ
  obtain rfl : t1 = (numN (d.drop (4 - k)) : Nat) := h1
  obtain rfl : t2 = 3 - (k : Int) := h2
  dsimp only
  refine Br.of (fun q => ?_) (fun q => ?_)
  · have hk2 : k < 4 := by have := dtrue q; omega
    obtain ⟨b, hb⟩ := at_k (l := d) (k := 3 - k) (by omega)
    obtain ⟨a, ha, hc⟩ := (h.pu hp).get _ _ hb
    have hlt := numN_lt (d.drop (4 - k))
    rw [List.length_drop, h4] at hlt
    have hlt3 : numN (d.drop (4 - k)) < 16777216 := Nat.lt_of_lt_of_le hlt (by
      rcases (by omega : k = 0 ∨ k = 1 ∨ k = 2 ∨ k = 3) with rfl | rfl | rfl | rfl <;> decide)
    have hbl := b.toNat_lt
    refine ⟨by omega, a, ha, by omega, by omega, _, by rw [show (3 - (k : Int)).toNat = 3 - k by omega]; exact hc, ?_⟩
    rw [or_low hlt3 hbl, wrap_in (by omega) (by omega)]
    refine hJ _ _ hk2 ⟨?_, by dsimp only; omega, hp⟩
    dsimp only
    rw [show 4 - (k + 1) = 3 - k by omega, drop_at hb, numN_cons, show 3 - k + 1 = 4 - k by omega]
  · have hk2 : k = 4 := by have := dfalse q; omega
    subst hk2
    exact ⟨rfl, hp⟩
theorem rNumber_c {w : World} {s : SV} {d : List UInt8} (h : ByV w s d) (h4 : d.length = 4) : Calls Tryz.prog 82 #[.slice s.a s.len s.cap] w fun e w' => e = .returned (.int .i64 (numN d : Nat)) /\ Pu w w' := by
  refine F82_calls _ w _ ?_
  have hl := h.len
  rw [F82_5, wrap_in (by omega) (by omega)]
  refine loopUp 4 (fun k t w' => t.1 = (numN (d.drop (4 - k)) : Nat) /\ t.2 = 3 - (k : Int) /\ Pu w w') ⟨by rw [List.drop_eq_nil_of_le (by omega)]; rfl, by dsimp only; omega, Pu.refl _⟩ ?_
  rintro k J ⟨t1, t2⟩ w2 hk ⟨h1, h2, hp⟩ hJ
  obtain rfl : t1 = (numN (d.drop (4 - k)) : Nat) := h1
  obtain rfl : t2 = 3 - (k : Int) := h2
  dsimp only
  refine Br.of (fun q => ?_) (fun q => ?_)
  · have hk2 : k < 4 := by have := dtrue q; omega
    obtain ⟨b, hb⟩ := at_k (l := d) (k := 3 - k) (by omega)
    obtain ⟨a, ha, hc⟩ := (h.pu hp).get _ _ hb
    have hlt := numN_lt (d.drop (4 - k))
    rw [List.length_drop, h4] at hlt
    have hlt3 : numN (d.drop (4 - k)) < 16777216 := Nat.lt_of_lt_of_le hlt (by
      rcases (by omega : k = 0 ∨ k = 1 ∨ k = 2 ∨ k = 3) with rfl | rfl | rfl | rfl <;> decide)
    have hbl := b.toNat_lt
    refine ⟨a, ha, by omega, by omega, _, by rw [show (3 - (k : Int)).toNat = 3 - k by omega]; exact hc, ?_⟩
    rw [wrap_in (n := 256 * ((numN (d.drop (4 - k)) : Nat) : Int)) (by omega) (by omega), wrap_in (n := ((b.toNat : Nat) : Int)) (by omega) (by omega), wrap_in (n := 256 * ((numN (d.drop (4 - k)) : Nat) : Int) + _) (by omega) (by omega), wrap_in (by omega) (by omega)]
    refine hJ _ _ hk2 ⟨?_, by dsimp only; omega, hp⟩
    dsimp only
    rw [show 4 - (k + 1) = 3 - k by omega, drop_at hb, numN_cons, show 3 - k + 1 = 4 - k by omega]
    omega
  · have hk2 : k = 4 := by have := dfalse q; omega
    subst hk2
    exact ⟨rfl, hp⟩
theorem bit_p : ∀ x : Nat, x < 256 -> ∀ r : Nat, r < 8 -> ((IntKind.u8.wrap ((BitVec.ofInt 8 (((x : Nat) : Int).fdiv (2 ^ (min r 8))) &&& BitVec.ofInt 8 1).toNat : Nat)) == 1) = x.testBit r := by decide +kernel
theorem bit_r : ∀ x : Nat, x < 256 -> ∀ r : Nat, r < 8 -> ((((IntKind.i64.wrap ((x : Nat) : Int)).fdiv (2 ^ (min r 64))).tmod 2) == 1) = x.testBit r := by decide +kernel
def sum8 (c0 c1 c2 c3 c4 c5 c6 c7 : Bool) : Nat := (if c0 then 2 ^ 0 else 0) + (if c1 then 2 ^ 1 else 0) + (if c2 then 2 ^ 2 else 0) + (if c3 then 2 ^ 3 else 0) + (if c4 then 2 ^ 4 else 0) + (if c5 then 2 ^ 5 else 0) + (if c6 then 2 ^ 6 else 0) + (if c7 then 2 ^ 7 else 0)
theorem sum8_bit : ∀ c0 c1 c2 c3 c4 c5 c6 c7 : Bool, ∀ r : Nat, r < 8 -> (UInt8.ofNat (sum8 c0 c1 c2 c3 c4 c5 c6 c7)).toNat.testBit r = [c0, c1, c2, c3, c4, c5, c6, c7].getD r false := by decide +kernel
theorem byteAt_bit (bits : List Bool) (q : Nat) {r : Nat} (hr : r < 8) : (UInt8.ofNat (byteAt bits q)).toNat.testBit r = decide (bits[8 * q + r]? = some true) := by
  have e : byteAt bits q = sum8 (decide (bits[8 * q + 0]? = some true)) (decide (bits[8 * q + 1]? = some true)) (decide (bits[8 * q + 2]? = some true)) (decide (bits[8 * q + 3]? = some true)) (decide (bits[8 * q + 4]? = some true)) (decide (bits[8 * q + 5]? = some true)) (decide (bits[8 * q + 6]? = some true)) (decide (bits[8 * q + 7]? = some true)) := by
    unfold byteAt sum8 bit01
    simp only [decide_eq_true_eq]
  rw [e, sum8_bit _ _ _ _ _ _ _ _ r hr]
  rcases (by omega : r = 0 ∨ r = 1 ∨ r = 2 ∨ r = 3 ∨ r = 4 ∨ r = 5 ∨ r = 6 ∨ r = 7) with rfl | rfl | rfl | rfl | rfl | rfl | rfl | rfl <;> rfl
def nullK (l : List Fld) (k : Nat) : Nat := ((l.take k).filter (·.null)).length
theorem nullK_le (l : List Fld) (k : Nat) : nullK l k <= (l.filter (·.null)).length := filter_take_le l k
theorem nbits_count : ∀ {l : List Fld} {vs : List Val}, vs.length = l.length -> (nbits l vs).length = (l.filter (·.null)).length
  | [], _, _ => by simp [nbits]
  | f :: l, [], h => by simp at h
  | f :: l, v :: vs, h => by
    have ih := nbits_count (l := l) (vs := vs) (by simpa using h)
    unfold nbits
    rw [List.filter_cons]
    by_cases hn : f.null = true
    · rw [if_pos hn, if_pos hn]; simp only [List.length_cons]; omega
    · rw [if_neg hn, if_neg hn]; exact ih
theorem nbits_split : ∀ (l : List Fld) (vs : List Val) (k : Nat), nbits l vs = nbits (l.take k) (vs.take k) ++ nbits (l.drop k) (vs.drop k)
  | [], _, _ => by simp [nbits]
  | f :: l, [], k => by
    have : nbits (f :: l) [] = [] := rfl
    rw [this]
    cases k with
    | zero => simp [nbits]
    | succ k => cases h : List.drop (k + 1) (f :: l) <;> simp [nbits]
  | f :: l, v :: vs, 0 => by simp [nbits]
  | f :: l, v :: vs, k + 1 => by
    have ih := nbits_split l vs k
    simp only [List.take_succ_cons, List.drop_succ_cons]
    have e1 : nbits (f :: l) (v :: vs) = if f.null then decide (v.kind = 0) :: nbits l vs else nbits l vs := rfl
    have e2 : nbits (f :: l.take k) (v :: vs.take k) = if f.null then decide (v.kind = 0) :: nbits (l.take k) (vs.take k) else nbits (l.take k) (vs.take k) := rfl
    rw [e1, e2]
    split
    · rw [ih]; rfl
    · exact ih
theorem nbits_at {l : List Fld} {vs : List Val} (hl : vs.length = l.length) {k : Nat} {f : Fld} {v : Val} (hf : l[k]? = some f) (hv : vs[k]? = some v) (hn : f.null = true) : (nbits l vs)[nullK l k]? = some (decide (v.kind = 0)) := by
  have hk := (List.getElem?_eq_some_iff.1 hf).1
  have h1 : (nbits (l.take k) (vs.take k)).length = nullK l k := nbits_count (by rw [List.length_take, List.length_take]; omega)
  rw [nbits_split l vs k, List.getElem?_append_right (by omega), h1, Nat.sub_self, drop_at hf, drop_at hv]
  unfold nbits; rw [if_pos hn]; rfl
theorem cellsS_split (sh : Fld -> Val -> List UInt8) (l : List Fld) (vs : List Val) (h : vs.length = l.length) (k : Nat) : cellsS sh l vs = cellsS sh (l.take k) (vs.take k) ++ cellsS sh (l.drop k) (vs.drop k) := by
  unfold cellsS
  rw [← List.flatMap_append, ← List.zip_append (by rw [List.length_take, List.length_take]; omega), List.take_append_drop, List.take_append_drop]
theorem row_gone {l : List Fld} {r : Rec} {d : List UInt8} (hd : rowS shownS l r = d) {b : UInt8} (hb : d[0]? = some b) : b = goneB r.gone := by
  rw [← hd] at hb
  unfold rowS at hb
  simpa using hb.symm
def offK (l : List Fld) (k : Nat) : Nat := 1 + nulls l + ((l.take k).map (fun x : Fld => x.width)).sum.toNat
theorem row_part {l : List Fld} {p : Int} {r : Rec} {d : List UInt8} (hall : l.all fieldB = true) (hR : RightR l p r.v) (hd : rowS shownS l r = d) {k : Nat} {f : Fld} {v : Val} (hf : l[k]? = some f) (hv : r.v[k]? = some v) : (d.drop (offK l k)).take f.width.toNat = shownS f v := by
  have hk := (List.getElem?_eq_some_iff.1 hf).1
  have h1 := cellsS_shown_len hall hR k (by omega)
  have hw := (hR.2 k f v hf hv).len
  rw [← hd]
  unfold rowS offK
  have hlen : ([goneB r.gone] ++ flN (nulls l) (nbits l r.v) ++ cellsS shownS (l.take k) (r.v.take k)).length = 1 + nulls l + ((l.take k).map (fun x : Fld => x.width)).sum.toNat := by
    simp only [List.length_append, flN_len, List.length_singleton]; omega
  rw [cellsS_split shownS l r.v hR.1 k, ← List.append_assoc, List.drop_append, List.drop_eq_nil_of_le (by omega), hlen, Nat.sub_self, List.drop_zero, List.nil_append, drop_at hf, drop_at hv]
  unfold cellsS
  rw [List.zip_cons_cons, List.flatMap_cons]
  dsimp only
  rw [cellS_shown, List.take_append_of_le_length (by omega), List.take_of_length_le (by omega)]
theorem row_flag {l : List Fld} {p : Int} {r : Rec} {d : List UInt8} (hR : RightR l p r.v) (hd : rowS shownS l r = d) {k : Nat} {f : Fld} {v : Val} (hf : l[k]? = some f) (hv : r.v[k]? = some v) (hn : f.null = true) {b : UInt8} (hb : d[1 + nullK l k / 8]? = some b) : b.toNat.testBit (nullK l k % 8) = decide (v.kind = 0) := by
  have hc := nbits_at hR.1 hf hv hn
  have hlt := (List.getElem?_eq_some_iff.1 hc).1
  rw [nbits_count hR.1] at hlt
  have hq : nullK l k / 8 < nulls l := by unfold nulls; omega
  have e : b = UInt8.ofNat (byteAt (nbits l r.v) (nullK l k / 8)) := by
    rw [← hd] at hb
    unfold rowS at hb
    rw [List.append_assoc, List.getElem?_append_right (by simp), List.getElem?_append_left (by simp [flN_len]; exact hq)] at hb
    simp only [List.length_singleton, Nat.add_sub_cancel_left] at hb
    rw [flN_at hq] at hb
    exact (Option.some.inj hb).symm
  rw [e, byteAt_bit _ _ (Nat.mod_lt _ (by decide)), show 8 * (nullK l k / 8) + nullK l k % 8 = nullK l k by omega, hc]
  simp
theorem nullK_succ {l : List Fld} {k : Nat} {f : Fld} (hf : l[k]? = some f) : nullK l (k + 1) = if f.null then nullK l k + 1 else nullK l k := nullN_take' hf
theorem offK_succ {l : List Fld} (hall : l.all fieldB = true) {k : Nat} {f : Fld} (hf : l[k]? = some f) : offK l (k + 1) = offK l k + f.width.toNat := by
  have h1 := sum_take hf
  have h2 := sum_le ((WOk.of hall).take k)
  have h3 := WOk.of hall f (List.mem_of_getElem? hf)
  unfold offK; rw [h1]; omega
theorem offK_le {l : List Fld} (hall : l.all fieldB = true) {k : Nat} {f : Fld} (hf : l[k]? = some f) : ((offK l k + f.width.toNat : Nat) : Int) <= wide l := by
  have hk := (List.getElem?_eq_some_iff.1 hf).1
  have h1 := sum_take hf
  have h2 := sum_le ((WOk.of hall).take k)
  have h3 := WOk.of hall f (List.mem_of_getElem? hf)
  have h4 : ((l.take (k + 1)).map (·.width)).sum <= (l.map (·.width)).sum := by
    have e : l.map (·.width) = (l.take (k + 1)).map (·.width) ++ (l.drop (k + 1)).map (·.width) := by rw [← List.map_append, List.take_append_drop]
    have h5 := sum_le (l := l.drop (k + 1)) fun g hg => WOk.of hall g (List.mem_of_mem_drop hg)
    rw [e, List.sum_append]; omega
  unfold offK wide; omega
end Go.Proofs.YtecmfdfhpldmmaaGreatDoor
