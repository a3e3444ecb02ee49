import Derived.Test.YtecmfdfhpldmmaaGreatDoorTbOwB
import Derived.Test.YtecmfdfhpldmmaaGreatDoorTbOwC
import Derived.Test.YtecmfdfhpldmmaaGreatDoorTbPrB
import Derived.Test.YtecmfdfhpldmmaaGreatDoorTbPrC
import Derived.ChangeKeysEq
/- Table: how values are written in fields, by both packages. No condition. -/
set_option maxRecDepth 100000
set_option linter.unusedVariables false
set_option linter.unusedSimpArgs false
namespace Go.Proofs.YtecmfdfhpldmmaaGreatDoor
open Go.Sh Go.RowKit
theorem empty_bytes {s : ByteArray} (h : s.size = 0) : s = ⟨#[]⟩ := by
  obtain ⟨⟨l⟩⟩ := s
  cases l with
  | nil => rfl
  | cons a l => simp [ByteArray.size] at h
inductive RightV (f : Fld) (p : Int) (v : Val) : Prop
  | nil (hv : v = noV) (hn : f.null = true)
  | truth (hk : f.kind = 1) (hw : f.width = 1) (hv : v = ⟨1, v.n, ⟨#[]⟩⟩) (hn : v.n = 0 ∨ v.n = 1)
  | num (hk : f.kind = 2) (hw : 1 <= f.width /\ f.width <= 15) (hv : v = ⟨2, v.n, ⟨#[]⟩⟩) (hn : -1000000000000000 <= v.n /\ v.n <= 1000000000000000) (hl : ((decI v.n).length : Int) <= f.width)
  | date (hk : f.kind = 3) (hw : f.width = 8) (hv : v = ⟨3, v.n, ⟨#[]⟩⟩) (hn : 0 <= v.n /\ v.n <= 3652059)
  | text (hk : f.kind = 4) (hw : 1 <= f.width /\ f.width <= 254) (hv : v = ⟨4, 0, v.s⟩) (hl : (v.s.size : Int) <= f.width) (hb : bare v.s.data.toList = v.s.data.toList) (ht : textB v.s.data.toList p = true)
  | memo (hk : f.kind = 5) (hw : f.width = 8) (hv : v = ⟨2, v.n, ⟨#[]⟩⟩) (hn : 0 <= v.n /\ v.n <= 99999999)
theorem fld_kinds {f : Fld} (h : fieldB f = true) : (f.kind = 1 /\ f.width = 1) ∨ (f.kind = 2 /\ 1 <= f.width /\ f.width <= 15) ∨ (f.kind = 3 /\ f.width = 8) ∨ (f.kind = 4 /\ 1 <= f.width /\ f.width <= 254) ∨ (f.kind = 5 /\ f.width = 8) := by
  unfold fieldB kindW at h
  simp only [Bool.and_eq_true] at h
  have h := h.2
  split at h
  · rename_i hk; simp at h; exact .inl ⟨hk, h⟩
  · split at h
    · rename_i hk; simp at h; exact .inr (.inl ⟨hk, h⟩)
    · split at h
      · rename_i hk; simp at h; exact .inr (.inr (.inl ⟨hk, h⟩))
      · split at h
        · rename_i hk; simp at h; exact .inr (.inr (.inr (.inl ⟨hk, h⟩)))
        · split at h
          · rename_i hk; simp at h; exact .inr (.inr (.inr (.inr ⟨hk, h⟩)))
          · simp at h
theorem RightV.of {f : Fld} {p : Int} {v : Val} (hf : fieldB f = true) (h : fitsV f p v = true) : RightV f p v := by
  have hk := fld_kinds hf
  have hv : validV v = 0 := by
    by_cases hv : validV v = 0
    · exact hv
    · unfold fitsV at h; rw [if_pos hv] at h; cases h
  obtain ⟨_, hok, hs⟩ := valid_ok hv
  unfold fitsV at h
  rw [if_neg (by omega)] at h
  obtain ⟨k, n, s⟩ := v
  simp only at *
  by_cases h0 : k = 0
  · rw [if_pos h0] at h
    subst h0
    have hn : n = 0 := by unfold okN at hok; rw [if_pos rfl] at hok; simpa using hok
    have hs : s = ⟨#[]⟩ := empty_bytes (by rcases hs with h | h; omega; exact h)
    subst hn hs
    exact .nil rfl h
  rw [if_neg h0] at h
  by_cases h5 : f.kind = 5
  · rw [if_pos h5] at h
    have hw : f.width = 8 := by omega
    simp only [Bool.and_eq_true, decide_eq_true_eq, memoN] at h
    obtain ⟨rfl, h1, h2⟩ := h
    have hs : s = ⟨#[]⟩ := empty_bytes (by rcases hs with h | h; omega; exact h)
    subst hs
    exact .memo h5 hw rfl ⟨h1, h2⟩
  rw [if_neg h5] at h
  by_cases hkk : k ≠ f.kind
  · rw [if_pos hkk] at h; cases h
  rw [if_neg hkk] at h
  have hkk : k = f.kind := by omega
  rcases hk with ⟨e, hw⟩ | ⟨e, hw⟩ | ⟨e, hw⟩ | ⟨e, hw⟩ | ⟨e, hw⟩
  · rw [e] at hkk; subst hkk
    have hs : s = ⟨#[]⟩ := empty_bytes (by rcases hs with h | h; omega; exact h)
    subst hs
    unfold okN at hok
    rw [if_neg (by decide), if_pos rfl] at hok
    exact .truth e hw rfl (by simpa using hok)
  · rw [e] at hkk; subst hkk
    have hs : s = ⟨#[]⟩ := empty_bytes (by rcases hs with h | h; omega; exact h)
    subst hs
    unfold okN at hok
    rw [if_neg (by decide), if_neg (by decide), if_pos rfl] at hok
    rw [if_pos e] at h
    exact .num e hw rfl (by simpa using hok) (by simpa using h)
  · rw [e] at hkk; subst hkk
    have hs : s = ⟨#[]⟩ := empty_bytes (by rcases hs with h | h; omega; exact h)
    subst hs
    unfold okN at hok
    rw [if_neg (by decide), if_neg (by decide), if_neg (by decide), if_pos rfl] at hok
    exact .date e hw rfl (by simpa using hok)
  · rw [e] at hkk; subst hkk
    rw [if_neg (by omega), if_pos e] at h
    unfold okN at hok
    rw [if_neg (by decide), if_neg (by decide), if_neg (by decide), if_neg (by decide), if_pos rfl] at hok
    simp only [Bool.and_eq_true, decide_eq_true_eq] at h hok
    subst hok
    exact .text e hw rfl h.1.1 h.1.2 h.2
  · omega
noncomputable def shownS (f : Fld) (v : Val) : List UInt8 :=
  if v.kind = 0 then List.replicate f.width.toNat 32 else if f.kind = 1 then [if v.n = 1 then 84 else 70] else if f.kind = 3 then stampB v.n
  else if f.kind = 4 then textSh f v else if f.kind = 5 /\ v.n = 0 then List.replicate f.width.toNat 32 else List.replicate (f.width.toNat - (decI v.n).length) 32 ++ decI v.n
theorem cellS_shown (f : Fld) (v : Val) : cellS shownS f v = shownS f v := by
  unfold cellS
  by_cases h : v.kind = 0
  · rw [if_pos h]; unfold shownS; rw [if_pos h]
  · rw [if_neg h]
theorem date_of {k : Nat} (h : 1 <= k /\ k <= 3652059) : ∃ y m d, IsDate y m d /\ dayOf y m d = k := by
  have hend := yfirst_end
  -- the year that holds the day
  have hy : ∃ y, 1 <= y /\ y <= 9999 /\ yfirst y < k /\ k <= yfirst (y + 1) := by
    have : ∀ j : Nat, j <= 9999 -> k <= yfirst (j + 1) -> ∃ y, 1 <= y /\ y <= 9999 /\ yfirst y < k /\ k <= yfirst (y + 1) := by
      intro j
      induction j with
      | zero => intro _ hk; exfalso; have : yfirst 1 = 0 := by decide
                simp only [Nat.zero_add] at hk; omega
      | succ j ih =>
        intro hj hk
        by_cases hlt : yfirst (j + 1) < k
        · exact ⟨j + 1, by omega, hj, hlt, hk⟩
        · exact ih (by omega) (by omega)
    exact this 9999 (by omega) (by show k <= yfirst 10000; omega)
  obtain ⟨y, y1, y9, ylt, yle⟩ := hy
  have hys := yfirst_succ y1
  have hm12 := mfirst_year y
  have hm : ∃ m, 1 <= m /\ m <= 12 /\ yfirst y + mfirst y (m - 1) < k /\ k <= yfirst y + mfirst y m := by
    have : ∀ j : Nat, j <= 12 -> k <= yfirst y + mfirst y j -> ∃ m, 1 <= m /\ m <= 12 /\ yfirst y + mfirst y (m - 1) < k /\ k <= yfirst y + mfirst y m := by
      intro j
      induction j with
      | zero => intro _ hk; exfalso; simp only [mfirst] at hk; omega
      | succ j ih =>
        intro hj hk
        by_cases hlt : yfirst y + mfirst y j < k
        · exact ⟨j + 1, by omega, hj, by rw [Nat.add_sub_cancel]; exact hlt, hk⟩
        · exact ih (by omega) (by omega)
    exact this 12 (by omega) (by rw [hm12]; omega)
  obtain ⟨m, m1, m12, mlt, mle⟩ := hm
  obtain ⟨j, rfl⟩ : ∃ j, m = j + 1 := ⟨m - 1, by omega⟩
  rw [Nat.add_sub_cancel] at mlt
  have hmf : mfirst y (j + 1) = mfirst y j + mdays y (j + 1) := rfl
  have hD : IsDate y (j + 1) (k - yfirst y - mfirst y j) := ⟨y1, y9, m1, m12, by omega, by omega⟩
  exact ⟨y, j + 1, k - yfirst y - mfirst y j, hD, by unfold dayOf; rw [Nat.add_sub_cancel]; omega⟩
theorem stampB_len {n : Int} (h : 0 <= n /\ n <= 3652059) : (stampB n).length = 8 := by
  by_cases h0 : n = 0
  · rw [h0, stampB_zero]; rfl
  obtain ⟨k, rfl⟩ : ∃ k : Nat, n = (k : Int) := ⟨n.toNat, by omega⟩
  obtain ⟨y, m, d, hD, e⟩ := date_of (k := k) (by omega)
  rw [← e, stampB_date hD]
  exact stamp_len8 hD
theorem RightV.len {f : Fld} {p : Int} {v : Val} (h : RightV f p v) : (shownS f v).length = f.width.toNat := by
  unfold shownS
  cases h with
  | nil hv hn => rw [hv]; simp [noV]
  | truth hk hw hv hn => rw [hv, if_neg (by simp), if_pos hk, hw]; rfl
  | num hk hw hv hn hl => rw [hv] at *; dsimp only at *; rw [if_neg (by decide), if_neg (by omega), if_neg (by omega), if_neg (by omega), if_neg (by omega), List.length_append, List.length_replicate]; omega
  | date hk hw hv hn => rw [hv, if_neg (by simp), if_neg (by omega), if_pos hk, hw]; exact stampB_len hn
  | text hk hw hv hl hb ht => rw [hv, if_neg (by simp), if_neg (by omega), if_neg (by omega), if_pos hk]; unfold textSh; rw [List.length_append, size_list, List.length_replicate]; dsimp only; omega
  | memo hk hw hv hn =>
    rw [hv] at *; dsimp only at *
    rw [if_neg (by decide), if_neg (by omega), if_neg (by omega), if_neg (by omega)]
    by_cases h0 : v.n = 0
    · rw [if_pos ⟨hk, h0⟩, List.length_replicate]
    · rw [if_neg (by simp [h0]), List.length_append, List.length_replicate]
      obtain ⟨k, hk2⟩ : ∃ k : Nat, v.n = (k : Int) := ⟨v.n.toNat, by omega⟩
      rw [hk2, decI_nat]
      have := decN_short 7 k (by omega)
      omega
def RightR (l : List Fld) (p : Int) (vs : List Val) : Prop := vs.length = l.length /\ ∀ (i : Nat) (f : Fld) (v : Val), l[i]? = some f -> vs[i]? = some v -> RightV f p v
theorem RightR.of {l : List Fld} {p : Int} {r : Rec} (hl : l.all fieldB = true) (h : validR l p r = 0) : RightR l p r.v := by
  obtain ⟨h1, h2⟩ := validR_ok h
  refine ⟨h1, fun i f v hf hv => RightV.of (List.all_eq_true.1 hl f (List.mem_of_getElem? hf)) ?_⟩
  exact List.all_eq_true.1 h2 (f, v) (List.mem_of_getElem? (zip_at hf hv))
theorem cellsS_shown_len {l : List Fld} {p : Int} {vs : List Val} (hl : l.all fieldB = true) (h : RightR l p vs) : ∀ k, k <= l.length -> ((cellsS shownS (l.take k) (vs.take k)).length : Int) = ((l.take k).map (·.width)).sum
  | 0, _ => by simp [cellsS]
  | k + 1, h1 => by
    obtain ⟨f, hf⟩ := at_k (show k < l.length by omega)
    obtain ⟨v, hv⟩ := at_k (show k < vs.length by have := h.1; omega)
    rw [cellsS_take hf hv, List.length_append, sum_take hf, cellS_shown, (h.2 k f v hf hv).len]
    have := cellsS_shown_len hl h k (by omega)
    have := field_width (List.all_eq_true.1 hl f (List.mem_of_getElem? hf))
    omega
theorem RightR.ne {l : List Fld} {p : Int} {vs : List Val} (hl : l.all fieldB = true) (h : RightR l p vs) (h0 : l ≠ []) : cellsS shownS l vs ≠ [] := fun e => by
  have h1 := cellsS_shown_len hl h l.length (Nat.le_refl _)
  rw [List.take_length, List.take_of_length_le (by have := h.1; omega), e] at h1
  obtain ⟨f, l', rfl⟩ := List.exists_cons_of_ne_nil h0
  simp only [List.map_cons, List.sum_cons, List.length_nil] at h1
  have hf := field_width (List.all_eq_true.1 hl f (by simp))
  have := sum_le (l := l') (WOk.of (List.all_eq_true.2 fun g hg => List.all_eq_true.1 hl g (by simp [hg])))
  omega
end Go.Proofs.YtecmfdfhpldmmaaGreatDoor

/- Table: numbers and dates that are read from texts, by both packages. No condition. -/
set_option maxRecDepth 100000
set_option linter.unusedVariables false
set_option linter.unusedSimpArgs false
namespace Go.Proofs.YtecmfdfhpldmmaaGreatDoor
open Go.Sh Go.RowKit
def digN : Nat -> List UInt8 -> Nat
  | a, [] => a
  | a, b :: l => if digB b then digN (min (10 * a + (b.toNat - 48)) 1000000000000000) l else a
def signN : List UInt8 -> Int
  | [] => 0
  | b :: r => if b.toNat = 45 then -(digN 0 r : Int) else if b.toNat = 43 then digN 0 r else digN 0 (b :: r)
theorem signN_cons (b : UInt8) (r : List UInt8) : signN (b :: r) = if b.toNat = 45 then -(digN 0 r : Int) else if b.toNat = 43 then digN 0 r else digN 0 (b :: r) := rfl
def valS (l : List UInt8) : Int := signN (l.dropWhile (· == 32))
theorem digN_le : ∀ {l : List UInt8} {a : Nat}, a <= 1000000000000000 -> digN a l <= 1000000000000000
  | [], a, h => h
  | b :: l, a, h => by
    unfold digN
    split
    · exact digN_le (Nat.min_le_right _ _)
    · exact h
theorem valS_in (l : List UInt8) : -1000000000000000 <= valS l /\ valS l <= 1000000000000000 := by
  have h := fun r => digN_le (l := r) (a := 0) (by omega)
  unfold valS signN
  split
  · omega
  · rename_i b r _
    have h1 := h r
    have h2 := h (b :: r)
    split
    · omega
    · split <;> omega
theorem digB_in {b : UInt8} (h : digB b = true) : 48 <= b.toNat /\ b.toNat <= 57 := by
  unfold digB at h; simpa using h
theorem digB_out {b : UInt8} (h : ¬ (48 <= b.toNat /\ b.toNat <= 57)) : digB b = false := by
  unfold digB; simp; omega
theorem dig_expr {b : UInt8} (h : 48 <= b.toNat /\ b.toNat <= 57) : IntKind.i64.wrap (IntKind.u8.wrap (((b.toNat : Nat) : Int) - 48)) = ((b.toNat - 48 : Nat) : Int) := by
  have e : IntKind.u8.wrap (((b.toNat : Nat) : Int) - 48) = ((b.toNat - 48 : Nat) : Int) := by rw [IntKind.wrap_u8]; omega
  rw [e, wrap_in (by omega) (by omega)]
theorem extract1 (b : UInt8) (r : List UInt8) : (bs (b :: r)).extract ((1 : Int).toNat) (bs (b :: r)).size = bs r := by
  apply bytes_ext
  rw [extract_list, bs_list, bs_list, bs_size]
  show (List.take (b :: r).length (b :: r)).drop 1 = r
  rw [List.take_length]; rfl
theorem valLoop {w0 w : World} (hp : Pu w0 w) (l : List UInt8) {sg X : Int} (hsg : sg = 1 ∨ sg = -1) (hl : l.length <= 140737488355328) (hX : X = sg * (digN 0 l : Nat)) :
    F151_5 (fun e w' => e = .returned (.int .i64 X) /\ Pu w0 w') (bs l) sg [] w := by
  have hs := bs_size l
  have fin : ∀ {a : Nat} {w' : World}, a <= 1000000000000000 -> a = digN 0 l -> Pu w0 w' -> F151_1 (fun e w' => e = .returned (.int .i64 X) /\ Pu w0 w') sg (a : Int) [] w' := fun {a w'} h1 h2 h3 => by
    refine ⟨?_, h3⟩
    rw [hX, ← h2]
    rcases hsg with h | h
    · rw [h, wrap_in (by omega) (by omega)]
    · rw [h, wrap_in (by omega) (by omega)]
  refine loopUp l.length (fun k t w' => t.2 = (k : Int) /\ ∃ a : Nat, t.1 = (a : Int) /\ a <= 1000000000000000 /\ digN a (l.drop k) = digN 0 l /\ Pu w0 w') ⟨rfl, 0, rfl, by omega, rfl, hp⟩ ?_
  rintro k J ⟨t1, t2⟩ w2 hk ⟨h2, a, h1, ha, hd, hp2⟩ hJ
  obtain rfl : t2 = (k : Int) := h2
  obtain rfl : t1 = (a : Int) := h1
  dsimp only
  refine Br.of (fun d => ?_) (fun d => ?_)
  · have hk2 : k < l.length := by have := dtrue d; omega
    obtain ⟨b, hb⟩ := at_k hk2
    have hbb : (bs l)[((k : Int)).toNat]? = some b := byte_list (by rw [bs_list]; exact hb)
    rw [drop_at hb] at hd
    refine ⟨b, by omega, hbb, Br.of (fun d1 => ?_) (fun d1 => ⟨b, by omega, hbb, Br.of (fun d2 => ?_) (fun d2 => ⟨b, by omega, hbb, ?_⟩)⟩)⟩
    · refine fin ha ?_ hp2
      rw [digN, digB_out (by have := dtrue d1; omega)] at hd
      simpa using hd
    · refine fin ha ?_ hp2
      rw [digN, digB_out (by have := dtrue d2; omega)] at hd
      simpa using hd
    · have d1 := dfalse d1
      have d2 := dfalse d2
      have hb2 : 48 <= b.toNat /\ b.toNat <= 57 := by omega
      rw [dig_expr hb2, wrap_in (n := (a : Int) * 10) (by omega) (by omega), wrap_in (n := (a : Int) * 10 + _) (by omega) (by omega), wrap_in (n := (k : Int) + 1) (by omega) (by omega)]
      refine ⟨_, w2, min_run _ _ _ _ _ _, ?_⟩
      have e : digB b = true := by unfold digB; simp; omega
      rw [digN, e, if_pos rfl] at hd
      exact hJ _ _ hk2 ⟨by dsimp only; omega, min (10 * a + (b.toNat - 48)) 1000000000000000, by dsimp only; omega, Nat.min_le_right _ _, hd, hp2⟩
  · have hk2 : k = l.length := by have := dfalse d; omega
    subst hk2
    rw [List.drop_length] at hd
    exact fin ha hd hp2
theorem val_c (s : ByteArray) (hs : s.size <= 140737488355328) (w : World) : Calls Tryz.prog 151 #[.string s] w fun e w' => e = .returned (.int .i64 (valS s.data.toList)) /\ Pu w w' := by
  refine F151_calls _ w _ ((Any.strings_TrimLeft_one Tryz.lays161 s 32 (by decide) w).mono ?_)
  rintro e w1 ⟨rfl, rfl⟩
  have hT : Lib.trimLeftB s.data.toList 32 = s.data.toList.dropWhile (· == 32) := rfl
  rw [hT]
  have hlen : (s.data.toList.dropWhile (· == 32)).length <= s.size := by
    have := (List.dropWhile_suffix (· == (32 : UInt8)) (l := s.data.toList)).length_le
    rwa [size_list] at this
  refine ⟨_, rfl, ?_⟩
  rw [toList_nil]
  unfold valS
  cases hL : s.data.toList.dropWhile (· == 32) with
  | nil => exact Br.f (by simp [ByteArray.size]) (valLoop (Pu.refl _) [] (.inl rfl) (by simp) rfl)
  | cons b r =>
    rw [hL] at hlen
    simp only [List.length_cons] at hlen
    have h0 : (bs (b :: r))[((0 : Int)).toNat]? = some b := byte_list (by rw [bs_list]; rfl)
    refine Br.t (by rw [bs_size]; simp) ⟨b, by omega, h0, Br.of (fun d => ⟨b, by omega, h0, Br.of (fun d1 => ⟨Nat.le_refl _, by omega, by rw [bs_size]; show 1 <= _; simp, ?_⟩) (fun d1 => absurd (btrue d) (bfalse d1))⟩) (fun d => ⟨b, by omega, h0, Br.of (fun d1 => ⟨b, by omega, h0, Br.of (fun d2 => absurd (btrue d2) (bfalse d)) (fun d2 => ⟨Nat.le_refl _, by omega, by rw [bs_size]; show 1 <= _; simp, ?_⟩)⟩) (fun d1 => ?_)⟩)⟩
    · rw [extract1]
      refine valLoop (Pu.refl _) r (.inr rfl) (by omega) ?_
      rw [signN_cons, if_pos (by have := btrue d; omega)]; omega
    · rw [extract1]
      refine valLoop (Pu.refl _) r (.inl rfl) (by omega) ?_
      rw [signN_cons, if_neg (by have := bfalse d; omega), if_pos (by have := btrue d1; omega)]; omega
    · refine valLoop (Pu.refl _) (b :: r) (.inl rfl) (by simp; omega) ?_
      rw [signN_cons, if_neg (by have := bfalse d; omega), if_neg (by have := bfalse d1; omega)]; omega
theorem rValLoop {w0 w : World} (hp : Pu w0 w) (s : ByteArray) (k : Nat) (hk : k <= s.size) (hs : s.size <= 140737488355328) (neg : Bool) {X : Int} (hX : X = if neg then -(digN 0 (s.data.toList.drop k) : Int) else (digN 0 (s.data.toList.drop k) : Nat)) :
    F120_4 (fun e w' => e = .returned (.int .i64 X) /\ Pu w0 w') s (k : Int) neg 0 [] w := by
  have fin : ∀ {a : Nat} {w' : World}, a <= 1000000000000000 -> a = digN 0 (s.data.toList.drop k) -> Pu w0 w' -> F120_1 (fun e w' => e = .returned (.int .i64 X) /\ Pu w0 w') neg (a : Int) [] w' := fun {a w'} h1 h2 h3 => by
    refine Br.of (fun d => ⟨?_, h3⟩) (fun d => ⟨?_, h3⟩)
    · rw [hX, if_pos d, ← h2, wrap_in (by omega) (by omega), Int.zero_sub]
    · rw [hX, if_neg (by rw [d]; simp), ← h2]
  refine loopUp (s.size - k) (fun j t w' => t.1 = ((k + j : Nat) : Int) /\ ∃ a : Nat, t.2 = (a : Int) /\ a <= 1000000000000000 /\ digN a (s.data.toList.drop (k + j)) = digN 0 (s.data.toList.drop k) /\ Pu w0 w') ⟨rfl, 0, rfl, by omega, rfl, hp⟩ ?_
  rintro j J ⟨t1, t2⟩ w2 hj ⟨h1, a, h2, ha, hd, hp2⟩ hJ
  obtain rfl : t1 = ((k + j : Nat) : Int) := h1
  obtain rfl : t2 = (a : Int) := h2
  dsimp only
  refine Br.of (fun d => ?_) (fun d => ?_)
  · have hk2 : k + j < s.size := by have := dtrue d; omega
    obtain ⟨b, hb1, hb⟩ := at_byte hk2
    have hbb : s[(((k + j : Nat) : Int)).toNat]? = some b := hb1
    rw [drop_at hb] at hd
    refine ⟨b, by omega, hbb, (isDigit_c b w2).mono ?_⟩
    rintro e w3 ⟨rfl, hp3⟩
    refine ⟨_, rfl, Br.of (fun d1 => ⟨b, by omega, hbb, ?_⟩) (fun d1 => ?_)⟩
    · have hb2 := digB_in d1
      rw [dig_expr hb2, wrap_in (n := 10 * (a : Int)) (by omega) (by omega), wrap_in (n := 10 * (a : Int) + _) (by omega) (by omega), wrap_in (n := ((k + j : Nat) : Int) + 1) (by omega) (by omega)]
      refine ⟨_, w3, min_run _ _ _ _ _ _, ?_⟩
      rw [digN, d1, if_pos rfl] at hd
      exact hJ _ _ (by omega) ⟨by dsimp only; omega, min (10 * a + (b.toNat - 48)) 1000000000000000, by dsimp only; omega, Nat.min_le_right _ _, hd, hp2.trans hp3⟩
    · refine fin ha ?_ (hp2.trans hp3)
      rw [digN, d1] at hd
      simpa using hd
  · have hk2 : k + j = s.size := by have := dfalse d; omega
    rw [hk2, List.drop_eq_nil_of_le (by rw [size_list]; exact Nat.le_refl _)] at hd
    exact fin ha hd hp2
theorem rVal_c (s : ByteArray) (hs : s.size <= 140737488355328) (w : World) : Calls Tryz.prog 120 #[.string s] w fun e w' => e = .returned (.int .i64 (valS s.data.toList)) /\ Pu w w' := by
  refine F120_calls _ w _ (loopUp s.size (fun k t w' => t = (k : Int) /\ s.data.toList.dropWhile (· == 32) = (s.data.toList.drop k).dropWhile (· == 32) /\ Pu w w') ⟨rfl, rfl, Pu.refl w⟩ ?_)
  rintro k J t w2 hk ⟨ht, hd, hp⟩ hJ
  obtain rfl : t = (k : Int) := ht
  have tail : s.data.toList.dropWhile (· == 32) = s.data.toList.drop k -> F120_5 (fun e w' => e = .returned (.int .i64 (valS s.data.toList)) /\ Pu w w') s (k : Int) [] w2 := fun hT => by
    unfold valS
    rw [hT]
    refine Br.of (fun d => ?_) (fun d => ?_)
    · have hk2 : k < s.size := by have := dtrue d; omega
      obtain ⟨b, hb1, hb⟩ := at_byte hk2
      have hbb : s[((k : Int)).toNat]? = some b := hb1
      have hdr := drop_at hb
      refine ⟨b, by omega, hbb, Br.of (fun d1 => ⟨b, by omega, hbb, ?_⟩) (fun d1 => ⟨b, by omega, hbb, Br.of (fun d2 => ⟨b, by omega, hbb, ?_⟩) (fun d2 => ?_)⟩)⟩
      · rw [wrap_in (by omega) (by omega), show (k : Int) + 1 = ((k + 1 : Nat) : Int) by omega]
        refine rValLoop hp s (k + 1) hk2 hs _ ?_
        rw [hdr, d1, if_pos rfl]; rw [signN_cons, if_pos (by have := btrue d1; omega)]
      · rw [wrap_in (by omega) (by omega), show (k : Int) + 1 = ((k + 1 : Nat) : Int) by omega]
        refine rValLoop hp s (k + 1) hk2 hs _ ?_
        rw [hdr, d1, if_neg (by simp)]; rw [signN_cons, if_neg (by have := bfalse d1; omega), if_pos (by have := btrue d2; omega)]
      · refine rValLoop hp s k hk hs false ?_
        rw [if_neg (by simp), hdr]; rw [signN_cons, if_neg (by have := bfalse d1; omega), if_neg (by have := bfalse d2; omega)]
    · refine rValLoop hp s k hk hs false ?_
      have hk2 : k = s.size := by have := dfalse d; omega
      rw [if_neg (by simp), List.drop_eq_nil_of_le (by rw [size_list]; omega)]; rfl
  refine Br.of (fun d => ?_) (fun d => ?_)
  · have hk2 : k < s.size := by have := dtrue d; omega
    obtain ⟨b, hb1, hb⟩ := at_byte hk2
    have hbb : s[((k : Int)).toNat]? = some b := hb1
    rw [drop_at hb] at hd
    refine ⟨b, by omega, hbb, Br.of (fun d1 => ?_) (fun d1 => tail ?_)⟩
    · have e : b = 32 := by apply UInt8.toNat_inj.1; have := btrue d1; show b.toNat = 32; omega
      rw [wrap_in (by omega) (by omega)]
      refine hJ _ _ hk2 ⟨by omega, ?_, hp⟩
      rw [hd, e]; rfl
    · have e : (b == 32) = false := by
        have := bfalse d1
        simp only [beq_eq_false_iff_ne, ne_eq]
        intro h; subst h; exact this rfl
      rw [hd, drop_at hb]
      simp [List.dropWhile_cons, e]
  · have hk2 : k = s.size := by have := dfalse d; omega
    refine tail ?_
    have hn : s.data.toList.drop k = [] := List.drop_eq_nil_of_le (by rw [size_list]; omega)
    rw [hd, hn]; rfl
def dateS (y m d : Nat) : Int × Bool := (((if IsDate y m d then dayOf y m d else 0 : Nat) : Int), decide (IsDate y m d))
def unstampS (l : List UInt8) : Int × Bool := if l = List.replicate 8 32 then (0, true) else if l.length ≠ 8 then (0, false) else if l.all digB then dateS (digN 0 (l.take 4)) (digN 0 ((l.drop 4).take 2)) (digN 0 (l.drop 6)) else (0, false)
theorem unstampS_in (l : List UInt8) : 0 <= (unstampS l).1 /\ (unstampS l).1 <= 3652059 := by
  unfold unstampS
  split
  · simp
  · split
    · simp
    · split
      · unfold dateS
        dsimp only
        split
        · rename_i h
          have h1 := h.year
          have h2 := yfirst_mono (a := digN 0 (l.take 4) + 1) (b := 10000) (by omega) (by have := h.2.1; omega)
          have := yfirst_end
          omega
        · omega
      · simp
theorem valS_digits {l : List UInt8} (h : l.all digB = true) : valS l = (digN 0 l : Nat) := by
  cases l with
  | nil => rfl
  | cons b r =>
    have hb := digB_in (List.all_eq_true.1 h b (by simp))
    have e : (b == 32) = false := by
      simp only [beq_eq_false_iff_ne, ne_eq]
      intro h; subst h; revert hb; decide
    unfold valS
    rw [List.dropWhile_cons, e]
    simp only [Bool.false_eq_true, if_false]
    rw [signN_cons, if_neg (by omega), if_neg (by omega)]
def dset : List UInt8 := [48, 49, 50, 51, 52, 53, 54, 55, 56, 57]
theorem dset_eq (b : UInt8) : dset.contains b = digB b := by
  have h : ∀ n : Nat, n < 256 -> dset.contains (UInt8.ofNat n) = digB (UInt8.ofNat n) := by decide +kernel
  have := h b.toNat b.toNat_lt
  rwa [UInt8.ofNat_toNat] at this
theorem trimD_c (s : ByteArray) (hs : s.size <= 9223372036854775807) (w : World) : Calls Tryz.prog 135 #[.string s, .string ⟨#[48, 49, 50, 51, 52, 53, 54, 55, 56, 57]⟩] w
    fun e w' => e = .returned (.string ⟨(Lib.trimS s.data.toList dset).toArray⟩) /\ Pu w w' :=
  Any.strings_Trim_laid Tryz.lays160 u110 s ⟨#[48, 49, 50, 51, 52, 53, 54, 55, 56, 57]⟩ w hs (by decide) (ascii_of_all (by decide))
theorem blanks8 (s : ByteArray) : (s.toList == (⟨#[32, 32, 32, 32, 32, 32, 32, 32]⟩ : ByteArray).toList) = decide (s.data.toList = List.replicate 8 32) := by
  rw [toList_beq]
  exact dec_eq ⟨fun h => by rw [h]; rfl, fun h => bytes_ext (by rw [h]; rfl)⟩
theorem all_take_of {l : List UInt8} (h : l.all digB = true) (n : Nat) : (l.take n).all digB = true := List.all_eq_true.2 fun b hb => List.all_eq_true.1 h b (List.mem_of_mem_take hb)
theorem all_drop_of {l : List UInt8} (h : l.all digB = true) (n : Nat) : (l.drop n).all digB = true := List.all_eq_true.2 fun b hb => List.all_eq_true.1 h b (List.mem_of_mem_drop hb)
theorem ext3 {s : ByteArray} (h8 : s.size = 8) : (s.extract 0 ((4 : Int).toNat)).data.toList = s.data.toList.take 4 /\ (s.extract ((4 : Int).toNat) ((6 : Int).toNat)).data.toList = (s.data.toList.drop 4).take 2 /\ (s.extract ((6 : Int).toNat) s.size).data.toList = s.data.toList.drop 6 := by
  refine ⟨by rw [extract_list]; rfl, ?_, ?_⟩
  · rw [extract_list]
    show (List.take 6 s.data.toList).drop 4 = _
    rw [List.drop_take]
  · rw [extract_list, h8, List.take_of_length_le (by rw [size_list]; omega)]; rfl
theorem unstamp_c (s : ByteArray) (hs : s.size <= 140737488355328) (w : World) : Calls Tryz.prog 152 #[.string s] w fun e w' => e = .returned (.tuple #[.int .i64 (unstampS s.data.toList).1, .bool (unstampS s.data.toList).2]) /\ Pu w w' := by
  refine F152_calls _ w _ ?_
  rw [F152_1, blanks8]
  refine Br.of (fun d => ⟨by unfold unstampS; rw [if_pos (dtrue d)], Pu.refl w⟩) (fun d => Br.of (fun d1 => ⟨?_, Pu.refl w⟩) (fun d1 => (trimD_c s (by omega) w).mono ?_))
  · unfold unstampS; rw [if_neg (dfalse d), if_pos (by rw [size_list]; have := bntrue d1; omega)]
  have h8 : s.size = 8 := by have := bnfalse d1; omega
  rintro e w1 ⟨rfl, hp1⟩
  have e2 : ((ByteArray.mk (Lib.trimS s.data.toList dset).toArray).toList == (⟨#[]⟩ : ByteArray).toList) = s.data.toList.all digB := by
    rw [toList_nil]
    have h1 : ((ByteArray.mk (Lib.trimS s.data.toList dset).toArray).size = 0) ↔ s.data.toList.all (dset.contains ·) = true := by
      rw [← trimS_nil]; simp [ByteArray.size]
    rw [show digB = (dset.contains ·) from funext fun b => (dset_eq b).symm]
    rw [Bool.eq_iff_iff, decide_eq_true_iff]; exact h1
  refine ⟨_, rfl, ?_⟩
  rw [e2]
  have eU : unstampS s.data.toList = if s.data.toList.all digB then dateS (digN 0 (s.data.toList.take 4)) (digN 0 ((s.data.toList.drop 4).take 2)) (digN 0 (s.data.toList.drop 6)) else (0, false) := by
    unfold unstampS; rw [if_neg (dfalse d), if_neg (by rw [size_list]; omega)]
  refine Br.of (fun d2 => ⟨by rw [eU, if_neg (by simpa using d2)], hp1⟩) (fun d2 => dwE_intro fun w2 hp2 _ => ?_)
  have hall : s.data.toList.all digB = true := by simpa using d2
  obtain ⟨x1, x2, x3⟩ := ext3 h8
  refine ⟨by omega, by rw [h8]; decide, by decide, by omega, by rw [h8]; decide, by omega, by decide, Nat.le_refl _, by omega, by rw [h8]; decide, (val_c _ (by rw [← size_list, x1, List.length_take]; omega) w2).mono ?_⟩
  rintro e w3 ⟨rfl, hp3⟩
  refine ⟨_, rfl, (val_c _ (by rw [← size_list, x2, List.length_take]; omega) w3).mono ?_⟩
  rintro e w4 ⟨rfl, hp4⟩
  refine ⟨_, rfl, (val_c _ (by rw [← size_list, x3, List.length_drop, size_list]; omega) w4).mono ?_⟩
  rintro e w5 ⟨rfl, hp5⟩
  rw [x1, x2, x3, valS_digits (all_take_of hall 4), valS_digits (all_take_of (all_drop_of hall 4) 2), valS_digits (all_drop_of hall 6)]
  refine ⟨_, rfl, (days_c _ _ _ w5).mono ?_⟩
  rintro e w6 ⟨rfl, hp6⟩
  refine ⟨_, _, rfl, ?_, (((hp1.trans hp2).trans hp3).trans (hp4.trans hp5)).trans hp6⟩
  rw [eU, if_pos hall]
  unfold dateS
  by_cases hD : IsDate (digN 0 (s.data.toList.take 4)) (digN 0 ((s.data.toList.drop 4).take 2)) (digN 0 (s.data.toList.drop 6))
  · rw [if_pos hD, if_pos hD, decide_eq_true hD]; rfl
  · rw [if_neg hD, if_neg hD, decide_eq_false hD]; rfl
theorem rUnstamp_c (s : ByteArray) (hs : s.size <= 140737488355328) (w : World) : Calls Tryz.prog 122 #[.string s] w fun e w' => e = .returned (.tuple #[.int .i64 (unstampS s.data.toList).1, .bool (unstampS s.data.toList).2]) /\ Pu w w' := by
  refine F122_calls _ w _ ?_
  rw [F122_5, blanks8]
  refine Br.of (fun d => ⟨by unfold unstampS; rw [if_pos (dtrue d)], Pu.refl w⟩) (fun d => Br.of (fun d1 => ⟨?_, Pu.refl w⟩) (fun d1 => ?_))
  · unfold unstampS; rw [if_neg (dfalse d), if_pos (by rw [size_list]; have := bntrue d1; omega)]
  have h8 : s.size = 8 := by have := bnfalse d1; omega
  have eU : unstampS s.data.toList = if s.data.toList.all digB then dateS (digN 0 (s.data.toList.take 4)) (digN 0 ((s.data.toList.drop 4).take 2)) (digN 0 (s.data.toList.drop 6)) else (0, false) := by
    unfold unstampS; rw [if_neg (dfalse d), if_neg (by rw [size_list]; omega)]
  refine loopUp 8 (fun k t w' => t = (k : Int) /\ (s.data.toList.take k).all digB = true /\ Pu w w') ⟨rfl, rfl, Pu.refl w⟩ ?_
  rintro k J t w1 hk ⟨ht, hal, hp1⟩ hJ
  obtain rfl : t = (k : Int) := ht
  refine Br.of (fun d2 => ?_) (fun d2 => dwE_intro fun w2 hp2 _ => ?_)
  · have hk2 : k < 8 := by have := dtrue d2; omega
    obtain ⟨b, hb1, hb⟩ := at_byte (s := s) (k := k) (by omega)
    have hbb : s[((k : Int)).toNat]? = some b := hb1
    refine ⟨b, by omega, hbb, (isDigit_c b w1).mono ?_⟩
    rintro e w2 ⟨rfl, hp2⟩
    refine ⟨_, rfl, Br.of (fun d3 => ⟨?_, hp1.trans hp2⟩) (fun d3 => ?_)⟩
    · rw [eU, if_neg]
      intro hA
      have := List.all_eq_true.1 hA b (List.mem_of_getElem? hb)
      rw [this] at d3; cases d3
    · rw [wrap_in (by omega) (by omega)]
      exact hJ _ _ hk2 ⟨by omega, by rw [all_take _ hb, hal]; simpa using d3, hp1.trans hp2⟩
  have hk2 : k = 8 := by have := dfalse d2; omega
  subst hk2
  have hall : s.data.toList.all digB = true := by
    rw [List.take_of_length_le (by rw [size_list]; omega)] at hal; exact hal
  obtain ⟨x1, x2, x3⟩ := ext3 h8
  refine ⟨by omega, by rw [h8]; decide, by decide, by omega, by rw [h8]; decide, by omega, by decide, Nat.le_refl _, by omega, by rw [h8]; decide, (rVal_c _ (by rw [← size_list, x1, List.length_take]; omega) w2).mono ?_⟩
  rintro e w3 ⟨rfl, hp3⟩
  refine ⟨_, rfl, (rVal_c _ (by rw [← size_list, x2, List.length_take]; omega) w3).mono ?_⟩
  rintro e w4 ⟨rfl, hp4⟩
  refine ⟨_, rfl, (rVal_c _ (by rw [← size_list, x3, List.length_drop, size_list]; omega) w4).mono ?_⟩
  rintro e w5 ⟨rfl, hp5⟩
  rw [x1, x2, x3, valS_digits (all_take_of hall 4), valS_digits (all_take_of (all_drop_of hall 4) 2), valS_digits (all_drop_of hall 6)]
  refine ⟨_, rfl, (rDays_c _ _ _ w5).mono ?_⟩
  rintro e w6 ⟨rfl, hp6⟩
  refine ⟨_, _, rfl, ?_, (((hp1.trans hp2).trans hp3).trans (hp4.trans hp5)).trans hp6⟩
  rw [eU, if_pos hall]
  unfold dateS
  by_cases hD : IsDate (digN 0 (s.data.toList.take 4)) (digN 0 ((s.data.toList.drop 4).take 2)) (digN 0 (s.data.toList.drop 6))
  · rw [if_pos hD, if_pos hD, decide_eq_true hD]; rfl
  · rw [if_neg hD, if_neg hD, decide_eq_false hD]; rfl
end Go.Proofs.YtecmfdfhpldmmaaGreatDoor

/- Table: values that are read back, by both packages. No condition. -/
set_option maxRecDepth 100000
set_option linter.unusedVariables false
set_option linter.unusedSimpArgs false
namespace Go.Proofs.YtecmfdfhpldmmaaGreatDoor
open Go.Sh Go.RowKit
theorem rTruth_c (b : Bool) (w : World) : Calls Tryz.prog 124 #[.bool b] w fun e w' => e = .returned (valA ⟨1, if b then 1 else 0, ⟨#[]⟩⟩) /\ Pu w w' := by
  refine F124_calls _ w _ (alB fun w1 hp1 hb1 => Br.of (fun d => stA_fill hb1 s25.symm rfl rfl fun w3 hb3 hf3 hs3 => ⟨_, cl hb3 0, _, cl hb3 1, _, cl hb3 2, ?_, hp1.andNew hf3 fun i hi => by omega⟩) (fun d => stA_fill hb1 s25.symm rfl rfl fun w3 hb3 hf3 hs3 => ⟨_, cl hb3 0, _, cl hb3 1, _, cl hb3 2, ?_, hp1.andNew hf3 fun i hi => by omega⟩))
  · rw [d]; rfl
  · rw [d]; rfl
theorem rDate_c (n : Int) (w : World) : Calls Tryz.prog 123 #[.int .i64 n] w fun e w' => e = .returned (valA ⟨3, n, ⟨#[]⟩⟩) /\ Pu w w' := by
  refine F123_calls _ w _ (boxA rfl s25.symm rfl fun w1 hp1 _ hb1 => ?_)
  exact ⟨_, cl hb1 0, _, cl hb1 1, _, cl hb1 2, rfl, hp1⟩
end Go.Proofs.YtecmfdfhpldmmaaGreatDoor

/- Table: rows that a conversion of a text has made. No condition. -/
set_option maxRecDepth 100000
set_option linter.unusedVariables false
set_option linter.unusedSimpArgs false
namespace Go.Proofs.YtecmfdfhpldmmaaGreatDoor
open Go.Sh Go.RowKit
def MRow (w0 w : World) (s : SV) (l : List UInt8) : Prop := ∃ (g : Nat) (cur : Array Value) (fz : Nat × Nat), s.a = some ⟨g, 0, none⟩ /\ w.heap[g]? = some (.cells cur 5 fz) /\ cur.size <= fz.1 /\ s.len = l.length /\ s.len <= s.cap /\ s.cap <= maxLen /\ cur.size = s.cap /\ cur.toList.take s.len = l.map u8V /\ w0.heap.size <= g
def ByRow (w0 w : World) (s : SV) (l : List UInt8) : Prop := MRow w0 w s l ∨ NewRow w0 w s l
theorem ByRow.pu {w0 w w' : World} {s : SV} {l : List UInt8} (h : ByRow w0 w s l) (hp : Pu w w') : ByRow w0 w' s l := by
  rcases h with ⟨g, cur, fz, h1, h2, h3⟩ | h
  · exact .inl ⟨g, cur, fz, h1, hp.blk h2, h3⟩
  · exact .inr (h.pu hp)
theorem ByRow.len {w0 w : World} {s : SV} {l : List UInt8} (h : ByRow w0 w s l) : s.len = l.length := by
  rcases h with ⟨g, cur, fz, h1, h2, h3, h4, _⟩ | h
  · exact h4
  · exact h.len
theorem MRow.cell {w0 w : World} {s : SV} {l : List UInt8} (h : MRow w0 w s l) {j : Nat} {b : UInt8} (hj : l[j]? = some b) : ∃ a, s.a = some a /\ w.cell? (a.add j) = some (u8V b) := by
  obtain ⟨g, cur, fz, h1, h2, h3, h4, h5, h6, h7, h8, _⟩ := h
  refine ⟨_, h1, ?_⟩
  rw [add_def, cell_blk h2, Nat.zero_add]
  have e : (cur.toList.take s.len)[j]? = some (u8V b) := by rw [h8, List.getElem?_map, hj]; rfl
  rw [List.getElem?_take] at e
  split at e
  · simpa using e
  · cases e
theorem ByRow.cell {w0 w : World} {s : SV} {l : List UInt8} (h : ByRow w0 w s l) {j : Nat} {b : UInt8} (hj : l[j]? = some b) : ∃ a, s.a = some a /\ w.cell? (a.add j) = some (u8V b) := by
  rcases h with h | h
  · exact h.cell hj
  · exact h.cell hj
theorem ByRow.low {w0 w1 w : World} {s : SV} {l : List UInt8} (h : ByRow w1 w s l) (hz : w0.heap.size <= w1.heap.size) : ByRow w0 w s l := by
  rcases h with ⟨g, cur, fz, h1, h2, h3, h4, h5, h6, h7, h8, h9⟩ | h
  · exact .inl ⟨g, cur, fz, h1, h2, h3, h4, h5, h6, h7, h8, Nat.le_trans hz h9⟩
  · exact .inr (h.low hz)
theorem MRow.push {w0 w : World} {s : SV} {l : List UInt8} (h : MRow w0 w s l) (hz : w0.heap.size <= w.heap.size) {r : Nat} {b : UInt8} {c : Array Value} (hr : w.heap[r]? = some (.cells c 5)) (hc : c[0]? = some (u8V b)) (hb : l.length <= 1000000) :
    ∃ (s' : SV) (w' : World), (Builtin.append_ #[37, 37] 37 #[.slice s.a s.len s.cap, .slice (some ⟨r, 0, none⟩) 1 1]).run Tryz.prog w = .ok (.slice s'.a s'.len s'.cap) w' /\ ByRow w0 w' s' (l ++ [b]) /\ Fr (· ∈ blkOf s) w w' := by
  have hcell := fun (j : Nat) (x : UInt8) (hj : l[j]? = some x) => h.cell hj
  obtain ⟨g, cur, fz, h1, h2, h3, h4, h5, h6, h7, h8, h9⟩ := h
  have hi := info5
  obtain ⟨i, i1, i2, i3, i4⟩ := info_parts hi
  have hnews : ∀ j u, [u8V b][j]? = some u -> w.cell? ((⟨r, 0, none⟩ : Addr).add j) = some u := fun j u hu => by
    cases j with
    | zero => simp at hu; subst hu; rw [add0, cell_blk hr]; exact hc
    | succ j => simp at hu
  have hgl : g < w.heap.size := blk_lt h2
  by_cases hroom : s.len + 1 <= s.cap
  · have hin : s.len < cur.size := by omega
    have hfro : w.frozen? ⟨g, s.len, none⟩ = false := by
      obtain ⟨lo, hi'⟩ := fz
      simp only [World.frozen?, h2, Bool.and_eq_false_iff, decide_eq_false_iff_not]
      left; simp only at h3; omega
    have hcl : w.cell? ⟨g, s.len, none⟩ = some cur[s.len] := by rw [cell_blk h2]; simp [hin]
    have hst : (storeCells ⟨g, s.len, none⟩ [u8V b] 0).run Tryz.prog w = .ok () (w.setCell ⟨g, s.len, none⟩ (u8V b)) := by
      simp only [storeCells, Sem.run_bind, add_def, Nat.add_zero]
      rw [run_store Tryz.prog w _ _ _ rfl, hcl]
      simp [hfro]
    have hf := run_firstCells_some (P := Tryz.prog) w i.size 1 ⟨r, 0, none⟩ 1 1 [u8V b] (by rw [i3]; rfl) hnews
    have hrun : (Builtin.append_ #[37, 37] 37 #[.slice s.a s.len s.cap, .slice (some ⟨r, 0, none⟩) 1 1]).run Tryz.prog w = .ok (.slice s.a (s.len + 1) s.cap) (w.setCell ⟨g, s.len, none⟩ (u8V b)) := by
      rw [h1]
      rw [i3] at hf
      simp [Builtin.append_, run_underlying u37, sizeOf, typeInfo, i1, i3, Builtin.lenOf, hroom, hf, Addr.add_lit, hst]
    refine ⟨⟨s.a, s.len + 1, s.cap⟩, _, hrun, .inl ⟨g, cur.setIfInBounds s.len (u8V b), fz, h1, setCell_blk h2 _ _, by rw [Array.size_setIfInBounds]; exact h3, by simp [h4], hroom, h6, by rw [Array.size_setIfInBounds]; exact h7, ?_, h9⟩, ?_⟩
    · rw [Array.toList_setIfInBounds, List.map_append, ← h8]
      apply List.ext_getElem?
      intro j
      show (List.take (s.len + 1) _)[j]? = _
      rw [List.getElem?_take]
      rcases Nat.lt_trichotomy j s.len with hj | hj | hj
      · rw [if_pos (by omega), List.getElem?_set_ne (by omega), List.getElem?_append_left (by rw [List.length_take, Array.length_toList]; omega), List.getElem?_take, if_pos hj]
      · subst hj
        rw [if_pos (by omega), List.getElem?_set_self (by rw [Array.length_toList]; exact hin), List.getElem?_append_right (by rw [List.length_take]; omega), List.length_take, Array.length_toList, show s.len - min s.len cur.size = 0 by omega]; rfl
      · rw [if_neg (by omega), List.getElem?_eq_none]
        rw [List.length_append, List.length_take, List.length_map, List.length_singleton]; omega
    · have := Fr.setCell w ⟨g, s.len, none⟩ (u8V b)
      exact ⟨this.os, this.tape, this.output, this.size, fun k hk hn => this.block k hk (fun e => hn (by simp [blkOf, h1, e]))⟩
  · have hlen : (l.map u8V).length = s.len * i.size := by rw [i3, List.length_map]; omega
    have holds : ∀ j u, (l.map u8V)[j]? = some u -> w.cell? ((⟨g, 0, none⟩ : Addr).add j) = some u := fun j u hu => by
      obtain ⟨x, hx, rfl⟩ : ∃ x, l[j]? = some x /\ u8V x = u := by simpa using hu
      obtain ⟨a, ha, hca⟩ := hcell j x hx
      rw [h1] at ha; cases ha; exact hca
    have hrun := run_append_grow (P := Tryz.prog) w 37 37 5 i (.int .u8 0) u37 i1 i2 ⟨g, 0, none⟩ s.len s.cap (l.map u8V) hlen holds ⟨r, 0, none⟩ 1 1 [u8V b] (by rw [i3]; rfl) hnews (by omega) (by omega) (growslice_fits (by omega) (by rw [i4]; omega))
    have hge := grownCap_ge w (s.len + 1) s.cap 5
    have hcm : grownCap w (s.len + 1) s.cap 5 <= maxLen := grownCap_le_maxLen w (s.len + 1) s.cap 5 (by unfold maxLen; omega)
    refine ⟨⟨some ⟨w.heap.size, 0, none⟩, s.len + 1, grownCap w (s.len + 1) s.cap 5⟩, _, by rw [h1]; exact hrun, .inr ⟨⟨by simp [h4], .inr ⟨w.heap.size, _, rfl, heap_alloc_new w.drew _, hge, hcm, ?_, ?_⟩⟩, fun k hk => by simp [blkOf] at hk; omega⟩, ?_⟩
    · simp only [Array.size_append, List.size_toArray, List.length_map, List.length_singleton, size_zeroCells]
      show l.length + 1 + (grownCap w (s.len + 1) s.cap 5 - (s.len + 1)) * 1 = _
      show l.length + 1 + (grownCap w (s.len + 1) s.cap 5 - (s.len + 1)) * 1 = grownCap w (s.len + 1) s.cap 5 * 1
      omega
    · simp only [Array.toList_append, List.append_assoc]
      rw [← List.append_assoc, List.map_append]
      have e : (List.map u8V l ++ [u8V b]).length = (s.len + 1) * 1 := by simp [h4]
      show List.take ((s.len + 1) * 1) _ = _
      rw [← e]
      exact List.take_left
    · exact (Fr.drew w).trans (Fr.alloc w.drew _) fun i hi _ => hi
theorem ByRow.push {w0 w : World} {s : SV} {l : List UInt8} (h : ByRow w0 w s l) (hp : Pu w0 w) {r : Nat} {b : UInt8} {c : Array Value} (hr : w.heap[r]? = some (.cells c 5)) (hc : c[0]? = some (u8V b)) (hb : l.length <= 1000000) :
    ∃ (s' : SV) (w' : World), (Builtin.append_ #[37, 37] 37 #[.slice s.a s.len s.cap, .slice (some ⟨r, 0, none⟩) 1 1]).run Tryz.prog w = .ok (.slice s'.a s'.len s'.cap) w' /\ ByRow w0 w' s' (l ++ [b]) /\ Pu w0 w' := by
  rcases h with h | h
  · obtain ⟨g, cur, fz, h1, _, _, _, _, _, _, _, h9⟩ := id h
    obtain ⟨s', w', e, h2, f⟩ := h.push hp.size hr hc hb
    exact ⟨s', w', e, h2, hp.andNew f fun i hi => by simp [blkOf, h1] at hi; omega⟩
  · obtain ⟨s', w', e, h2, f⟩ := h.one hp.size hr hc (by omega)
    exact ⟨s', w', e, .inr h2, hp.andNew f fun i hi => h.2 i hi⟩
end Go.Proofs.YtecmfdfhpldmmaaGreatDoor

/- Table: the reference's header and row. No condition. -/
set_option maxRecDepth 100000
set_option linter.unusedVariables false
set_option linter.unusedSimpArgs false
namespace Go.Proofs.YtecmfdfhpldmmaaGreatDoor
open Go.Sh Go.RowKit
theorem NewRow.cat {w1 w : World} {s m : SV} {l news : List UInt8} (h : NewRow w1 w s l) (hp : Pu w1 w) (hl : m.len = news.length) (hn : ∀ (j : Nat) (b : UInt8), news[j]? = some b -> ∃ a, m.a = some a /\ w.cell? (a.add j) = some (u8V b)) (hb : l.length + news.length <= 2000000) :
    ∃ (s' : SV) (w' : World), (Builtin.append_ #[37, 37] 37 #[.slice s.a s.len s.cap, .slice m.a m.len m.cap]).run Tryz.prog w = .ok (.slice s'.a s'.len s'.cap) w' /\ NewRow w1 w' s' (l ++ news) /\ Pu w1 w' := by
  obtain ⟨s', w', e, h2, f⟩ := h.app hp.size hl hn (by omega)
  exact ⟨s', w', e, h2, hp.andNew f fun i hi => h.2 i hi⟩
end Go.Proofs.YtecmfdfhpldmmaaGreatDoor

/- Table: the bytes of a table; the law on them. No condition. -/
set_option maxRecDepth 100000
set_option linter.unusedVariables false
set_option linter.unusedSimpArgs false
namespace Go.Proofs.YtecmfdfhpldmmaaGreatDoor
open Go.Sh Go.RowKit
structure Okay (t : Tbl) : Prop where
  page : pageB t.page = true
  vf : validF t.fields = 0
  ne : t.fields ≠ []
  all : t.fields.all fieldB = true
  n16 : t.fields.length <= 16
  w2 : wide t.fields <= 2000
  m300 : t.recs.length <= 300
  recs : ∀ x ∈ t.recs, RightR t.fields t.page x.v
theorem Okay.of {t : Tbl} (h : validT t = 0) : Okay t := by
  obtain ⟨hpg, hvf, h300, hfb⟩ := validT_ok h
  obtain ⟨h0, hall, _, h16, hw⟩ := validF_ok hvf
  exact ⟨hpg, hvf, h0, hall, h16, hw, h300, fun x hx => RightR.of hall (firstBad_all hfb x hx)⟩
end Go.Proofs.YtecmfdfhpldmmaaGreatDoor

/- Table: bytes that are handed in; parts of a row's bytes. No condition. -/
set_option maxRecDepth 100000
set_option linter.unusedVariables false
set_option linter.unusedSimpArgs false
namespace Go.Proofs.YtecmfdfhpldmmaaGreatDoor
open Go.Sh Go.RowKit
structure ByV (w : World) (s : SV) (d : List UInt8) : Prop where
  len : s.len = d.length
  cap : s.len <= s.cap
  lim : s.len <= 140737488355328
  get : ∀ (j : Nat) (b : UInt8), d[j]? = some b -> ∃ a, s.a = some a /\ w.cell? (a.add (j * 1)) = some (u8V b)
theorem ByV.pu {w w' : World} {s : SV} {d : List UInt8} (h : ByV w s d) (hp : Pu w w') : ByV w' s d := ⟨h.len, h.cap, h.lim, fun j b hj => by
  obtain ⟨a, h1, h2⟩ := h.get j b hj
  exact ⟨a, h1, hp.cell h2⟩⟩
theorem ByV.of {w : World} {s : SV} {d : List UInt8} (h : RdSl w s d) : ByV w s d := ⟨h.len, h.cap, h.lim, fun j b hj => by
  obtain ⟨a, h1, _, h2⟩ := h.u8 hj
  exact ⟨a, h1, h2⟩⟩
theorem NewRow.by {w0 w : World} {s : SV} {d : List UInt8} (h : NewRow w0 w s d) (hb : d.length <= 140737488355328) : ByV w s d := ⟨h.len, h.1.le_cap.1, by have := h.len; omega, fun j b hj => by
  obtain ⟨a, h1, h2⟩ := h.cell hj
  exact ⟨a, h1, by rw [Nat.mul_one]; exact h2⟩⟩
end Go.Proofs.YtecmfdfhpldmmaaGreatDoor

/- Table: the program's reading of a row's bytes. No condition. -/
set_option maxRecDepth 100000
set_option maxHeartbeats 2000000
set_option linter.unusedVariables false
set_option linter.unusedSimpArgs false
namespace Go.Proofs.YtecmfdfhpldmmaaGreatDoor
open Go.Sh Go.RowKit
def appV (l83 : SV) (p6 : Option Addr) (c : Array Value) (K : World -> Prop) (w : World) : Prop :=
  alE (.cells c 25) w fun r85 w23 => ∃ l86 : SV, ∃ w24 : World, (Builtin.append_ #[44, 44] 44 #[.slice l83.a l83.len l83.cap, .slice (some ⟨r85, 0, none⟩) 1 1]).run Tryz.prog w23 = .ok (.slice l86.a l86.len l86.cap) w24 /\
  ptrE p6 fun a25 => st1 (a25.add 1) (.slice l86.a l86.len l86.cap) w24 fun w26 => K w26
def pushR (p6 : Option Addr) (r14 : Nat) (K : World -> Prop) (w : World) : Prop :=
  ptrE p6 fun a22 => ∃ l83 : SV, w.cell? (a22.add 1) = some (.slice l83.a l83.len l83.cap) /\
  ∃ n84_0 : Int, w.cell? ((⟨r14, 0, none⟩ : Addr).add 0) = some (.int .i64 n84_0) /\
  ∃ n84_1 : Int, w.cell? ((⟨r14, 0, none⟩ : Addr).add 1) = some (.int .i64 n84_1) /\
  ∃ s84_2 : ByteArray, w.cell? ((⟨r14, 0, none⟩ : Addr).add 2) = some (.string s84_2) /\
  appV l83 p6 #[.int .i64 n84_0, .int .i64 n84_1, .string s84_2] K w
structure RecSt (w0 wr : World) (r4 r6 : Nat) (g : Bool) (vs : List Val) (w : World) : Prop where
  ex : ∃ q : SV, w.heap[r6]? = some (.cells #[.bool g, .slice q.a q.len q.cap] 46) /\ NewV wr w q vs
  b4 : w.heap[r4]? = some (.cells #[.bool false, .slice none 0 0] 46)
  sz : wr.heap.size <= w.heap.size
  pu : Pu w0 w
  l4 : r4 < wr.heap.size
  l6 : r6 < wr.heap.size
  ne : r4 ≠ r6
  z4 : w0.heap.size <= r4
  z6 : w0.heap.size <= r6
theorem RecSt.on {w0 wr w w' : World} {r4 r6 : Nat} {g : Bool} {vs : List Val} (h : RecSt w0 wr r4 r6 g vs w) (hp : Pu w w') : RecSt w0 wr r4 r6 g vs w' := by
  obtain ⟨q, h1, h2⟩ := h.ex
  exact ⟨⟨q, hp.blk h1, h2.pu hp⟩, hp.blk h.b4, Nat.le_trans h.sz hp.size, h.pu.trans hp, h.l4, h.l6, h.ne, h.z4, h.z6⟩
end Go.Proofs.YtecmfdfhpldmmaaGreatDoor

/- Table: the reference's reading of a row's bytes. No condition. -/
set_option maxRecDepth 100000
set_option maxHeartbeats 2000000
set_option linter.unusedVariables false
set_option linter.unusedSimpArgs false
namespace Go.Proofs.YtecmfdfhpldmmaaGreatDoor
open Go.Sh Go.RowKit
end Go.Proofs.YtecmfdfhpldmmaaGreatDoor

/- Table: rows of fields and of records that a call has made; a field's entry, read by both packages. No condition. -/
set_option maxRecDepth 100000
set_option maxHeartbeats 1000000
set_option linter.unusedVariables false
set_option linter.unusedSimpArgs false
namespace Go.Proofs.YtecmfdfhpldmmaaGreatDoor
open Go.Sh Go.RowKit
theorem u32' : Tryz.prog.underlying 32 = some (.slice 23) := by kernel_rfl
theorem info23 : (Tryz.prog.info? 23).map (fun i => (i.zero, i.size, i.bytes)) = some (some (.agg #[.string ⟨#[]⟩, .int .i64 0, .int .i64 0, .bool false]), 4, 40) := by kernel_rfl
theorem u33 : Tryz.prog.underlying 33 = some (.slice 46) := by kernel_rfl
theorem info46 : (Tryz.prog.info? 46).map (fun i => (i.zero, i.size, i.bytes)) = some (some (.agg #[.bool false, .slice none 0 0]), 2, 32) := by kernel_rfl
theorem fldV_len (f : Fld) : (fldV f).length = 4 := rfl
def NewF (w0 w : World) (s : SV) (l : List Fld) : Prop := RowAt w 23 4 s (l.flatMap fldV) /\ ∀ b ∈ blkOf s, w0.heap.size <= b
theorem NewF.len {w0 w : World} {s : SV} {l : List Fld} (h : NewF w0 w s l) : s.len = l.length := h.1.len fldV_len (by decide)
theorem NewF.pu {w0 w w' : World} {s : SV} {l : List Fld} (h : NewF w0 w s l) (hp : Pu w w') : NewF w0 w' s l := ⟨h.1.pu hp, h.2⟩
theorem NewF.fr {B : Nat -> Prop} {w0 w w' : World} {s : SV} {l : List Fld} (h : NewF w0 w s l) (hf : Fr B w w') (hn : ∀ k ∈ blkOf s, ¬ B k) : NewF w0 w' s l := ⟨h.1.fr hf hn, h.2⟩
theorem NewF.nil (w0 w : World) : NewF w0 w ⟨none, 0, 0⟩ [] := ⟨RowAt.nil w 23 4, by simp [blkOf]⟩
theorem NewF.low {w0 w1 w : World} {s : SV} {l : List Fld} (h : NewF w1 w s l) (hz : w0.heap.size <= w1.heap.size) : NewF w0 w s l := ⟨h.1, fun b hb => Nat.le_trans hz (h.2 b hb)⟩
theorem NewF.push {w0 w : World} {s : SV} {l : List Fld} (h : NewF w0 w s l) (hz : w0.heap.size <= w.heap.size) {r : Nat} {f : Fld} {c : Array Value} (hr : w.heap[r]? = some (.cells c 23)) (hc : c = #[.string f.name, .int .i64 f.kind, .int .i64 f.width, .bool f.null]) (hb : l.length <= 1000000) :
    ∃ (s' : SV) (w' : World), (Builtin.append_ #[32, 32] 32 #[.slice s.a s.len s.cap, .slice (some ⟨r, 0, none⟩) 1 1]).run Tryz.prog w = .ok (.slice s'.a s'.len s'.cap) w' /\ NewF w0 w' s' (l ++ [f]) /\ Fr (· ∈ blkOf s) w w' := by
  subst hc
  have h1 := h.len
  obtain ⟨s', w', hra, hrow, hf, hblk, _⟩ := row_append_any (P := Tryz.prog) (ty := 32) u32' info23 rfl (by decide) h.1 (A := some ⟨r, 0, none⟩) (m := 1) (c := 1) (news := fldV f) rfl (fun j u hu => ⟨_, rfl, by rw [cl hr]; simpa using hu⟩) (fun u hu => by simp [fldV] at hu; rcases hu with rfl | rfl | rfl | rfl <;> rfl) (by omega)
  refine ⟨s', w', hra, ⟨by simpa using hrow, fun b hb => ?_⟩, hf⟩
  rcases hblk b hb with h2 | h2
  · exact h.2 b h2
  · omega
def F64 (l : List Fld) : Prop := ∀ f ∈ l, In64 f.kind /\ In64 f.width
def V64 (l : List Val) : Prop := ∀ v ∈ l, In64 v.kind /\ In64 v.n
theorem NewF.rd {w0 w : World} {s : SV} {l : List Fld} (h : NewF w0 w s l) (hb : l.length <= 1000000) (h64 : F64 l) : RdSl w s l := ⟨h.len, h.1.le_cap.1, by have := h.len; omega, fun i f hf => by
  obtain ⟨a, h1, _, c0⟩ := h.1.elem fldV_len hf (o := 0) rfl
  obtain ⟨a1, h1', _, c1⟩ := h.1.elem fldV_len hf (o := 1) rfl
  obtain ⟨a2, h1'', _, c2⟩ := h.1.elem fldV_len hf (o := 2) rfl
  obtain ⟨a3, h1''', _, c3⟩ := h.1.elem fldV_len hf (o := 3) rfl
  rw [h1] at h1' h1'' h1'''; cases h1'; cases h1''; cases h1'''
  refine ⟨a, h1, fldV f, ⟨rfl, h64 f (List.mem_of_getElem? hf)⟩, fun j v hv => ?_⟩
  rcases j with _ | _ | _ | _ | j <;> simp [fldV] at hv
  · subst hv; exact c0
  · subst hv; exact c1
  · subst hv; exact c2
  · subst hv; exact c3⟩
theorem NewV.rdS {w0 w : World} {s : SV} {l : List Val} (h : NewV w0 w s l) (hb : l.length <= 1000000) (h64 : V64 l) : RdSl w s l := ⟨h.len, h.1.le_cap.1, by have := h.len; omega, fun i f hf => by
  obtain ⟨a, h1, _, c0⟩ := h.1.elem valV_len hf (o := 0) rfl
  obtain ⟨a1, h1', _, c1⟩ := h.1.elem valV_len hf (o := 1) rfl
  obtain ⟨a2, h1'', _, c2⟩ := h.1.elem valV_len hf (o := 2) rfl
  rw [h1] at h1' h1''; cases h1'; cases h1''
  refine ⟨a, h1, valV f, ⟨rfl, h64 f (List.mem_of_getElem? hf)⟩, fun j v hv => ?_⟩
  rcases j with _ | _ | _ | j <;> simp [valV] at hv
  · subst hv; exact c0
  · subst hv; exact c1
  · subst hv; exact c2⟩
def recC (x : Bool × SV) : List Value := [.bool x.1, .slice x.2.a x.2.len x.2.cap]
theorem recC_len (x : Bool × SV) : (recC x).length = 2 := rfl
theorem rows_apart {w : World} {e e' : TypeId} {sz sz' : Nat} {s s' : SV} {vs vs' : List Value} (h : RowAt w e sz s vs) (h' : RowAt w e' sz' s' vs') (hne : e ≠ e') : ∀ k ∈ blkOf s, ¬ k ∈ blkOf s' := fun k hk hk' => by
  obtain ⟨_, rfl | ⟨g, cur, h3, h4, _⟩⟩ := h
  · simp [blkOf] at hk
  obtain ⟨_, rfl | ⟨g', cur', h3', h4', _⟩⟩ := h'
  · simp [blkOf] at hk'
  simp [blkOf, h3] at hk
  simp [blkOf, h3'] at hk'
  subst hk; subst hk'
  rw [h4] at h4'
  simp only [Option.some.injEq, Obj.cells.injEq] at h4'
  exact hne h4'.2.1
def NewR (w0 w : World) (s : SV) (rs : List Rec) : Prop := ∃ qs : List (Bool × SV), RowAt w 46 2 s (qs.flatMap recC) /\ (∀ b ∈ blkOf s, w0.heap.size <= b) /\ qs.length = rs.length /\ ∀ (i : Nat) (r : Rec) (x : Bool × SV), rs[i]? = some r -> qs[i]? = some x -> x.1 = r.gone /\ NewV w0 w x.2 r.v
theorem NewR.len {w0 w : World} {s : SV} {rs : List Rec} (h : NewR w0 w s rs) : s.len = rs.length := by
  obtain ⟨qs, h1, _, h3, _⟩ := h
  rw [h1.len recC_len (by decide), h3]
theorem NewR.own {w0 w : World} {s : SV} {rs : List Rec} (h : NewR w0 w s rs) : ∀ b ∈ blkOf s, w0.heap.size <= b := h.choose_spec.2.1
theorem NewR.pu {w0 w w' : World} {s : SV} {rs : List Rec} (h : NewR w0 w s rs) (hp : Pu w w') : NewR w0 w' s rs := by
  obtain ⟨qs, h1, h2, h3, h4⟩ := h
  exact ⟨qs, h1.pu hp, h2, h3, fun i r x hr hx => ⟨(h4 i r x hr hx).1, (h4 i r x hr hx).2.pu hp⟩⟩
theorem NewR.one {w0 w w' : World} {b : Nat} {s : SV} {rs : List Rec} (h : NewR w0 w s rs) (hf : Fr (· = b) w w') (hb : b < w0.heap.size) : NewR w0 w' s rs := by
  obtain ⟨qs, h1, h2, h3, h4⟩ := h
  exact ⟨qs, h1.fr hf fun k hk e => by have := h2 k hk; omega, h2, h3, fun i r x hr hx => ⟨(h4 i r x hr hx).1, (h4 i r x hr hx).2.fr hf fun k hk e => by have := (h4 i r x hr hx).2.2 k hk; omega⟩⟩
theorem NewR.low {w0 w1 w : World} {s : SV} {rs : List Rec} (h : NewR w1 w s rs) (hz : w0.heap.size <= w1.heap.size) : NewR w0 w s rs := by
  obtain ⟨qs, h1, h2, h3, h4⟩ := h
  exact ⟨qs, h1, fun b hb => Nat.le_trans hz (h2 b hb), h3, fun i r x hr hx => ⟨(h4 i r x hr hx).1, (h4 i r x hr hx).2.low hz⟩⟩
theorem NewR.nil (w0 w : World) : NewR w0 w ⟨none, 0, 0⟩ [] := ⟨[], RowAt.nil w 46 2, by simp [blkOf], rfl, fun i r x hr => by simp at hr⟩
theorem NewR.push {w0 w : World} {s q : SV} {rs : List Rec} {g : Bool} {vs : List Val} (h : NewR w0 w s rs) (hz : w0.heap.size <= w.heap.size) (hq : NewV w0 w q vs) {r : Nat} {c : Array Value} (hr : w.heap[r]? = some (.cells c 46)) (hc : c = #[.bool g, .slice q.a q.len q.cap]) (hb : rs.length <= 1000000) :
    ∃ (s' : SV) (w' : World), (Builtin.append_ #[33, 33] 33 #[.slice s.a s.len s.cap, .slice (some ⟨r, 0, none⟩) 1 1]).run Tryz.prog w = .ok (.slice s'.a s'.len s'.cap) w' /\ NewR w0 w' s' (rs ++ [⟨g, vs⟩]) /\ Fr (· ∈ blkOf s) w w' := by
  subst hc
  have h1 := h.len
  obtain ⟨qs, r1, r2, r3, r4⟩ := h
  obtain ⟨s', w', hra, hrow, hf, hblk, _⟩ := row_append_any (P := Tryz.prog) (ty := 33) u33 info46 rfl (by decide) r1 (A := some ⟨r, 0, none⟩) (m := 1) (c := 1) (news := recC (g, q)) rfl (fun j u hu => ⟨_, rfl, by rw [cl hr]; simpa [recC] using hu⟩) (fun u hu => by simp [recC] at hu; rcases hu with rfl | rfl <;> rfl) (by omega)
  refine ⟨s', w', hra, ⟨qs ++ [(g, q)], by simpa using hrow, fun b hb => ?_, by simp [r3], fun i rr x hr2 hx => ?_⟩, hf⟩
  · rcases hblk b hb with h2 | h2
    · exact r2 b h2
    · omega
  · rcases Nat.lt_trichotomy i rs.length with hi | hi | hi
    · rw [List.getElem?_append_left hi] at hr2
      rw [List.getElem?_append_left (by omega)] at hx
      obtain ⟨e1, e2⟩ := r4 i rr x hr2 hx
      exact ⟨e1, e2.fr hf (rows_apart e2.1 r1 (by decide))⟩
    · subst hi
      rw [List.getElem?_append_right (Nat.le_refl _), Nat.sub_self] at hr2
      rw [← r3, List.getElem?_append_right (Nat.le_refl _), Nat.sub_self] at hx
      simp at hr2 hx; subst hr2 hx
      exact ⟨rfl, hq.fr hf (rows_apart hq.1 r1 (by decide))⟩
    · rw [List.getElem?_eq_none (by simp; omega)] at hr2; cases hr2
def R64 (rs : List Rec) : Prop := ∀ r ∈ rs, V64 r.v /\ r.v.length <= 1000000
theorem NewR.rd {w0 w : World} {s : SV} {rs : List Rec} (h : NewR w0 w s rs) (hb : rs.length <= 1000000) (h64 : R64 rs) : RdSl w s rs := by
  have hl := h.len
  obtain ⟨qs, r1, r2, r3, r4⟩ := h
  refine ⟨hl, r1.le_cap.1, by omega, fun i r hr => ?_⟩
  obtain ⟨x, hx⟩ := at_k (l := qs) (k := i) (by have := (List.getElem?_eq_some_iff.1 hr).1; omega)
  obtain ⟨e1, e2⟩ := r4 i r x hr hx
  obtain ⟨a, h1, _, c0⟩ := r1.elem recC_len hx (o := 0) rfl
  obtain ⟨a1, h1', _, c1⟩ := r1.elem recC_len hx (o := 1) rfl
  rw [h1] at h1'; cases h1'
  obtain ⟨q1, q2⟩ := h64 r (List.mem_of_getElem? hr)
  refine ⟨a, h1, _, ⟨x.2, rfl, e2.rdS q2 q1⟩, fun j v hv => ?_⟩
  rcases j with _ | _ | j <;> simp at hv
  · subst hv; rw [← e1]; exact c0
  · subst hv; exact c1
end Go.Proofs.YtecmfdfhpldmmaaGreatDoor

/- Table: parts of a table's bytes; a table that a call makes. No condition. -/
set_option maxRecDepth 100000
set_option maxHeartbeats 1000000
set_option linter.unusedVariables false
set_option linter.unusedSimpArgs false
namespace Go.Proofs.YtecmfdfhpldmmaaGreatDoor
open Go.Sh Go.RowKit
structure OwnT (w0 w : World) (t : Tbl) (f q : SV) : Prop where
  fs : NewF w0 w f t.fields
  rs : NewR w0 w q t.recs
theorem OwnT.pu {w0 w w' : World} {t : Tbl} {f q : SV} (h : OwnT w0 w t f q) (hp : Pu w w') : OwnT w0 w' t f q := ⟨h.fs.pu hp, h.rs.pu hp⟩
theorem OwnT.low {w0 w1 w : World} {t : Tbl} {f q : SV} (h : OwnT w1 w t f q) (hz : w0.heap.size <= w1.heap.size) : OwnT w0 w t f q := ⟨h.fs.low hz, h.rs.low hz⟩
theorem OwnT.one {w0 w w' : World} {b : Nat} {t : Tbl} {f q : SV} (h : OwnT w0 w t f q) (hf : Fr (· = b) w w') (hb : b < w0.heap.size) : OwnT w0 w' t f q := ⟨h.fs.fr hf fun k hk e => by have := h.fs.2 k hk; omega, h.rs.one hf hb⟩
structure Nice (t : Tbl) : Prop where
  page : In64 t.page
  f64 : F64 t.fields
  r64 : R64 t.recs
  fl : t.fields.length <= 255
  rl : t.recs.length <= 300
  nm : ∀ f ∈ t.fields, f.name.size <= 10
theorem OwnT.rd {w0 w : World} {t : Tbl} {f q : SV} (h : OwnT w0 w t f q) (hn : Nice t) : RdTbl w t f q := ⟨hn.page, h.fs.rd (by have := hn.fl; omega) hn.f64, h.rs.rd (by have := hn.rl; omega) hn.r64⟩
theorem Nice.lim {t : Tbl} (hn : Nice t) : Lim.ok t.fields := fun f hf => by
  have := hn.nm f hf
  show f.name.size <= 140737488355328
  omega
theorem Nice.zero : Nice ⟨0, [], []⟩ := ⟨⟨by decide, by decide⟩, fun f hf => by simp at hf, fun r hr => by simp at hr, by simp, by simp, fun f hf => by simp at hf⟩
theorem s35 : sizeB Tryz.prog 35 = 3 := by kernel_rfl
structure TblSt (w0 wr : World) (r2 r4 : Nat) (t : Tbl) (w : World) : Prop where
  ex : ∃ f q : SV, w.heap[r4]? = some (.cells #[.int .i64 t.page, .slice f.a f.len f.cap, .slice q.a q.len q.cap] 35) /\ OwnT wr w t f q
  b2 : w.heap[r2]? = some (.cells #[.int .i64 0, .slice none 0 0, .slice none 0 0] 35)
  sz : wr.heap.size <= w.heap.size
  pu : Pu w0 w
  l2 : r2 < wr.heap.size
  l4 : r4 < wr.heap.size
  ne : r2 ≠ r4
  z2 : w0.heap.size <= r2
  z4 : w0.heap.size <= r4
theorem TblSt.on {w0 wr w w' : World} {r2 r4 : Nat} {t : Tbl} (h : TblSt w0 wr r2 r4 t w) (hp : Pu w w') : TblSt w0 wr r2 r4 t w' := by
  obtain ⟨f, q, h1, h2⟩ := h.ex
  exact ⟨⟨f, q, hp.blk h1, h2.pu hp⟩, hp.blk h.b2, Nat.le_trans h.sz hp.size, h.pu.trans hp, h.l2, h.l4, h.ne, h.z2, h.z4⟩
end Go.Proofs.YtecmfdfhpldmmaaGreatDoor

/- Table: the program's reading of a table's bytes. No condition. -/
set_option maxRecDepth 100000
set_option maxHeartbeats 2000000
set_option linter.unusedVariables false
set_option linter.unusedSimpArgs false
namespace Go.Proofs.YtecmfdfhpldmmaaGreatDoor
open Go.Sh Go.RowKit
end Go.Proofs.YtecmfdfhpldmmaaGreatDoor

/- Table: both packages' reading of a table's bytes. No condition. -/
set_option maxRecDepth 100000
set_option maxHeartbeats 2000000
set_option linter.unusedVariables false
set_option linter.unusedSimpArgs false
namespace Go.Proofs.YtecmfdfhpldmmaaGreatDoor
open Go.Sh Go.RowKit
end Go.Proofs.YtecmfdfhpldmmaaGreatDoor

/- Table: the laws on the reading of bytes. No condition. -/
set_option maxRecDepth 100000
set_option maxHeartbeats 1000000
set_option linter.unusedVariables false
set_option linter.unusedSimpArgs false
namespace Go.Proofs.YtecmfdfhpldmmaaGreatDoor
open Go.Sh Go.RowKit
theorem tbl_eq {a b : Tbl} : (a = b) ↔ (a.page = b.page /\ a.fields = b.fields /\ a.recs = b.recs) := by
  obtain ⟨a1, a2, a3⟩ := a; obtain ⟨b1, b2, b3⟩ := b; simp
theorem sameT_c {w : World} {a b : Tbl} {fa ra fb rb : SV} (ha : RdTbl w a fa ra) (hb : RdTbl w b fb rb) : Calls Tryz.prog 43 #[tblA a fa ra, tblA b fb rb] w fun e w' => e = .returned (.bool (decide (a = b))) /\ Pu w w' := by
  refine F43_calls _ _ _ _ _ _ w _ (alB fun w1 hp1 hb1 => alB fun w2 hp2 hb2 => ?_)
  have hp02 := hp1.trans hp2
  have b1 : ∀ {wz}, Pu w2 wz -> _ := fun {wz} (h : Pu w2 wz) => tbl_blk (t := a) (f := fa) (q := ra) (h.blk (hp2.blk hb1))
  have b2 : ∀ {wz}, Pu w2 wz -> _ := fun {wz} (h : Pu w2 wz) => tbl_blk (t := b) (f := fb) (q := rb) (h.blk hb2)
  have c1 := (b1 (Pu.refl _)).1
  have c2 := (b2 (Pu.refl _)).1
  rw [add0] at c1 c2
  have no : ∀ {w' : World}, Pu w2 w' -> a ≠ b -> (Ending.returned (.bool false) = .returned (.bool (decide (a = b))) /\ Pu w w') := fun h hne => ⟨by rw [decide_eq_false hne], hp02.trans h⟩
  refine ⟨_, c1, _, c2, Br.of (fun d => no (Pu.refl _) fun e => bntrue d (by rw [e])) (fun d => ⟨_, (b1 (Pu.refl _)).2.1, _, (b2 (Pu.refl _)).2.1, (sameFields_c (RdF.of (ha.fields.pu hp02)) (RdF.of (hb.fields.pu hp02))).mono ?_⟩)⟩
  have hpg := bnfalse d
  rintro e w3 ⟨rfl, hp3⟩
  refine ⟨_, rfl, Br.of (fun d1 => no hp3 fun e => by rw [e] at d1; simp at d1) (fun d1 => ⟨_, (b1 hp3).2.2, _, (b2 hp3).2.2, ?_⟩)⟩
  have hfl : a.fields = b.fields := by simpa using d1
  have hla := ha.recs.len
  have hlb := hb.recs.len
  have hlm := ha.recs.lim
  refine Br.of (fun d2 => no hp3 fun e => bntrue d2 (by rw [hla, hlb, e])) (fun d2 => ?_)
  have hlen : a.recs.length = b.recs.length := by have := bnfalse d2; omega
  refine loopUp a.recs.length (fun k t w' => t = (k : Int) /\ a.recs.take k = b.recs.take k /\ Pu w2 w') ⟨rfl, by simp, hp3⟩ ?_
  rintro k J t w4 hk ⟨ht, he, hp⟩ hJ
  obtain rfl : t = (k : Int) := ht
  refine ⟨_, (b1 hp).2.2, Br.of (fun d3 => dwE_intro fun w5 hp5 _ => ?_) (fun d3 => ?_)⟩
  · have hk2 : k < a.recs.length := by have := dtrue d3; omega
    have p5 := hp.trans hp5
    obtain ⟨x, hx⟩ := at_k hk2
    obtain ⟨y, hy⟩ := at_k (show k < b.recs.length by omega)
    obtain ⟨p, sx, hpa, _, vx, x0, x1⟩ := recAt (ha.recs.pu (hp02.trans p5)) hx
    obtain ⟨q, sy, hqa, _, vy, y0, y1⟩ := recAt (hb.recs.pu (hp02.trans p5)) hy
    refine ⟨_, (b1 p5).2.2, p, hpa, by omega, by omega, _, x0, _, x1, _, (b2 p5).2.2, q, hqa, by omega, by omega, _, y0, _, y1, (sameRecord_c (RdV.of vx) (RdV.of vy)).mono ?_⟩
    rintro e w6 ⟨rfl, hp6⟩
    refine ⟨_, rfl, Br.of (fun d4 => no (p5.trans hp6) fun e => ?_) (fun d4 => ?_)⟩
    · have : x = y := by rw [e] at hx; rw [hx] at hy; exact Option.some.inj hy
      subst this
      simp at d4
    · rw [wrap_in (by omega) (by omega)]
      have hxy : x = y := by
        rw [rec_eq]
        simpa using d4
      exact hJ _ _ hk2 ⟨by omega, eq_of_take he hx hy hxy, p5.trans hp6⟩
  · have hk2 : k = a.recs.length := by have := dfalse d3; omega
    subst hk2
    rw [List.take_length, hlen, List.take_length] at he
    exact ⟨by rw [decide_eq_true (tbl_eq.2 ⟨hpg, hfl, he⟩)], hp02.trans hp⟩
theorem NewRow.set {w1 w : World} {s : SV} {l : List UInt8} (h : NewRow w1 w s l) (hp : Pu w1 w) {i : Nat} (hi : i < l.length) (b : UInt8) : ∃ a, s.a = some a /\ ∀ K : World -> Prop, (∀ w', NewRow w1 w' s (l.set i b) -> Pu w1 w' -> K w') -> st1 (a.add i) (u8V b) w K := by
  obtain ⟨a, ha, _⟩ := h.1.st1 (j := i) (by simpa using hi) (u8V b) (K := fun _ => True) fun _ _ _ _ => trivial
  refine ⟨a, ha, fun K hK => ?_⟩
  obtain ⟨a', ha', hst⟩ := h.1.st1 (j := i) (by simpa using hi) (u8V b) (K := K) fun w' h1 h2 _ => hK w' ⟨by rw [List.map_set]; exact h1, h.2⟩ (hp.andNew h2 fun i hi => h.2 i hi)
  rw [ha] at ha'; cases ha'
  exact hst
end Go.Proofs.YtecmfdfhpldmmaaGreatDoor

/- Table: what a value of a field becomes in one of another kind, in both packages. No condition. -/
set_option maxRecDepth 100000
set_option maxHeartbeats 1000000
set_option linter.unusedVariables false
set_option linter.unusedSimpArgs false
namespace Go.Proofs.YtecmfdfhpldmmaaGreatDoor
open Go.Sh Go.RowKit
theorem u158 : Tryz.prog.underlying 158 = some (.array 2 3) := by kernel_rfl
theorem u3' : Tryz.prog.underlying 3 = some (.int .i64) := by kernel_rfl
theorem guard158 : Tryz.prog.eqGuardType Tryz.prog.depth 158 = false := by kernel_rfl
theorem agg3 : aggB Tryz.prog 3 = false := by kernel_rfl
theorem cells3 : Tryz.prog.cellsOf 3 = 1 := by kernel_rfl
theorem eqArr2 (x y : Operand) (a b c d : Int) (w : World) : (eqS .eql 158 x y (.agg #[.int .i64 a, .int .i64 b]) (.agg #[.int .i64 c, .int .i64 d])).run Tryz.prog w = .ok (.bool ((a == c) && (b == d))) w := by
  refine eqS_run (run_eqGuard_agg w .eql 158 x y _ _ guard158) (by simp only [binOp]; simp [Op.equal, Op.maxDepth]) ?_
  obtain ⟨i, hi, _⟩ := info_parts info3
  have hu : (Tryz.prog.underlying 3).isSome = true := by rw [u3']; rfl
  have e : ∀ p q : Int, (Op.equalIn 9999 3 (.int .i64 p) (.int .i64 q)).run Tryz.prog w = .ok (p == q) w := fun p q => by
    obtain ⟨r, h1, h2, _⟩ := equalIn_sk (P := Tryz.prog) 9998 w (t := 3) (k := .int .i64) (x := .int .i64 p) (y := .int .i64 q) (by unfold skB; rw [u3']; rfl) rfl rfl
    have : r = (p == q) := by
      by_cases hpq : p = q
      · subst hpq; simp at h2; simp [h2]
      · have : (p == q) = false := by simpa using hpq
        rw [this]
        cases r with
        | false => rfl
        | true => have := h2.1 rfl; simp at this; exact absurd this hpq
    rw [← this]; exact h1
  rw [run_equalIn_array w 9999 _ _ u158 hi, cells3]
  have hr : List.range 2 = [0, 1] := rfl
  rw [hr]
  simp only [Op.eqItems, Sem.run_bind]
  rw [run_part_one (v := .int .i64 a) agg3 hu rfl]
  simp only [Result.andThen_ok]
  rw [run_part_one (v := .int .i64 c) agg3 hu rfl]
  simp only [Result.andThen_ok, e]
  cases h : (a == c)
  · simp
  · simp only [Bool.not_true, Bool.false_eq_true, if_false, Sem.run_bind]
    rw [run_part_one (v := .int .i64 b) agg3 hu rfl]
    simp only [Result.andThen_ok]
    rw [run_part_one (v := .int .i64 d) agg3 hu rfl]
    simp only [Result.andThen_ok, e]
    cases h2 : (b == d) <;> simp
theorem RightV.valid {f : Fld} {p : Int} {v : Val} (h : RightV f p v) : validV v = 0 := by
  cases h with
  | nil hv hn => rw [hv]; decide
  | truth hk hw hv hn =>
    rw [hv]; unfold validV okN
    rcases hn with hn | hn <;> simp [hn] <;> decide
  | num hk hw hv hn hl => rw [hv]; unfold validV okN; simp [hn.1, hn.2]; decide
  | date hk hw hv hn => rw [hv]; unfold validV okN; simp [hn.1, hn.2]; decide
  | text hk hw hv hl hb ht => rw [hv]; unfold validV okN; simp; omega
  | memo hk hw hv hn =>
    rw [hv]; unfold validV okN
    have h1 : -1000000000000000 <= v.n := by omega
    have h2 : v.n <= 1000000000000000 := by omega
    simp [h1, h2]; decide
def tB (l : List UInt8) : Bool := decide (l.head? = some 84) || decide (l.head? = some 116)
noncomputable def convO (a b : Int) (v : Val) : Option Val :=
  if v.kind = 0 ∨ a = b then some v else if a = 2 /\ b = 4 then some ⟨4, 0, bs (decI v.n)⟩ else if a = 4 /\ b = 2 then some ⟨2, valS v.s.data.toList, ⟨#[]⟩⟩
  else if a = 3 /\ b = 4 then some ⟨4, 0, bs (stampB v.n)⟩ else if a = 4 /\ b = 3 then some ⟨3, (unstampS v.s.data.toList).1, ⟨#[]⟩⟩
  else if a = 1 /\ b = 4 then some ⟨4, 0, bs [if v.n = 1 then 84 else 70]⟩ else if a = 4 /\ b = 1 then some ⟨1, if tB v.s.data.toList then 1 else 0, ⟨#[]⟩⟩ else none
theorem Br.and {a b x y : Int} {A B : Prop} (h1 : a = x -> b = y -> A) (h2 : ¬ (a = x /\ b = y) -> B) : Br (a == x) (Br (b == y) A B) (Br false A B) :=
  Br.of (fun d => Br.of (fun d1 => h1 (btrue d) (btrue d1)) (fun d1 => h2 fun h => bfalse d1 h.2)) (fun d => Br.f rfl (h2 fun h => bfalse d h.1))
theorem Br.and' {a b x y : Int} {A B : Prop} (h1 : a = x -> b = y -> A) (h2 : ¬ (a = x /\ b = y) -> B) : Br (a == x) (Br (b == y) A B) B :=
  Br.of (fun d => Br.of (fun d1 => h1 (btrue d) (btrue d1)) (fun d1 => h2 fun h => bfalse d1 h.2)) (fun d => h2 fun h => bfalse d h.1)
theorem rConv_c {g : Fld} {p : Int} {v : Val} (h : RightV g p v) (b : Int) (w : World) : Calls Tryz.prog 88 #[.int .i64 g.kind, .int .i64 b, valA v] w fun e w' => e = .returned (.tuple #[valA ((convO g.kind b v).getD noV), .bool (convO g.kind b v).isSome]) /\ Pu w w' := by
  refine F88_calls _ _ _ _ _ w _ (alB fun w1 hp1 hb1 => alB fun w2 hp2 hb2 => ?_)
  have hp := hp1.trans hp2
  have q1 := hp2.blk hb1
  have l1 : w.heap.size < w1.heap.size := blk_lt hb1
  have sz : v.s.size <= 140737488355328 := by
    have := h.valid
    have := (valid_ok this).1
    omega
  have out : ∀ {x : Val} {ok : Bool} {w' : World}, Pu w2 w' -> x = (convO g.kind b v).getD noV -> ok = (convO g.kind b v).isSome -> stA Tryz.prog 25 (⟨w1.heap.size, 0, none⟩ : Addr) #[.int .i64 x.kind, .int .i64 x.n, .string x.s] w' fun w3 =>
      ∃ nR0_0 : Int, w3.cell? ((⟨w1.heap.size, 0, none⟩ : Addr).add 0) = some (.int .i64 nR0_0) /\ ∃ nR0_1 : Int, w3.cell? ((⟨w1.heap.size, 0, none⟩ : Addr).add 1) = some (.int .i64 nR0_1) /\ ∃ sR0_2 : ByteArray, w3.cell? ((⟨w1.heap.size, 0, none⟩ : Addr).add 2) = some (.string sR0_2) /\
      (Ending.returned (.tuple #[.agg #[.int .i64 nR0_0, .int .i64 nR0_1, .string sR0_2], .bool ok]) = .returned (.tuple #[valA ((convO g.kind b v).getD noV), .bool (convO g.kind b v).isSome]) /\ Pu w w3) := fun {x ok w'} hz h1 h2 =>
    stA_fill (hz.blk hb2) s25.symm rfl rfl fun w3 hb3 hf3 hs3 => ⟨_, cl hb3 0, _, cl hb3 1, _, cl hb3 2, by rw [← h1, ← h2], (hp.trans hz).andNew hf3 fun i hi => by omega⟩
  have keep : v.kind = 0 ∨ g.kind = b -> F88_2 (fun e w' => e = .returned (.tuple #[valA ((convO g.kind b v).getD noV), .bool (convO g.kind b v).isSome]) /\ Pu w w') (some ⟨w.heap.size, 0, none⟩) (some ⟨w1.heap.size, 0, none⟩) [] w2 := fun hc => by
    have e : convO g.kind b v = some v := by unfold convO; rw [if_pos hc]
    exact ⟨_, cl q1 0, _, cl q1 1, _, cl q1 2, out (x := v) (ok := true) (Pu.refl _) (by rw [e]; rfl) (by rw [e]; rfl)⟩
  refine ⟨_, cl0 q1, Br.of (fun d => Br.t rfl (keep (.inl (btrue d)))) (fun d => Br.of (fun d1 => keep (.inr (btrue d1))) (fun d1 => ?_))⟩
  have hk0 : v.kind ≠ 0 := bfalse d
  have hab : g.kind ≠ b := bfalse d1
  have e0 : ¬ (v.kind = 0 ∨ g.kind = b) := fun h => h.elim hk0 hab
  refine Br.and (fun k1 k2 => ?_) (fun n24 => ?_)
  · have e : convO g.kind b v = some ⟨4, 0, bs (decI v.n)⟩ := by unfold convO; rw [if_neg e0, if_pos ⟨k1, k2⟩]
    have hn : In64 v.n := by
      cases h with
      | nil hv hn => rw [hv] at hk0; exact absurd rfl hk0
      | num hk hw hv hn hl => exact ⟨by omega, by omega⟩
      | _ => omega
    refine ⟨_, cl q1 1, (written_c hn w2).mono ?_⟩
    rintro e w3 ⟨rfl, hp3⟩
    refine ⟨_, rfl, (rText_c _ w3).mono ?_⟩
    rintro e w4 ⟨rfl, hp4⟩
    exact ⟨_, _, _, rfl, out (x := ⟨4, 0, bs (decI v.n)⟩) (ok := true) (hp3.trans hp4) (by rw [e]; rfl) (by rw [e]; rfl)⟩
  refine Br.and (fun k1 k2 => ?_) (fun n42 => ?_)
  · have e : convO g.kind b v = some ⟨2, valS v.s.data.toList, ⟨#[]⟩⟩ := by unfold convO; rw [if_neg e0, if_neg n24, if_pos ⟨k1, k2⟩]
    refine ⟨_, cl q1 2, (rVal_c v.s sz w2).mono ?_⟩
    rintro e w3 ⟨rfl, hp3⟩
    refine ⟨_, rfl, (rNum_c _ w3).mono ?_⟩
    rintro e w4 ⟨rfl, hp4⟩
    exact ⟨_, _, _, rfl, out (x := ⟨2, valS v.s.data.toList, ⟨#[]⟩⟩) (ok := true) (hp3.trans hp4) (by rw [e]; rfl) (by rw [e]; rfl)⟩
  refine Br.and (fun k1 k2 => ?_) (fun n34 => ?_)
  · have e : convO g.kind b v = some ⟨4, 0, bs (stampB v.n)⟩ := by unfold convO; rw [if_neg e0, if_neg n24, if_neg n42, if_pos ⟨k1, k2⟩]
    have hn : 0 <= v.n /\ v.n <= 3652059 := by
      cases h with
      | nil hv hn => rw [hv] at hk0; exact absurd rfl hk0
      | date hk hw hv hn => exact hn
      | _ => omega
    refine ⟨_, cl q1 1, (rStamp_c v.n hn w2).mono ?_⟩
    rintro e w3 ⟨rfl, _, hp3⟩
    refine ⟨_, _, rfl, (rText_c _ w3).mono ?_⟩
    rintro e w4 ⟨rfl, hp4⟩
    exact ⟨_, _, _, rfl, out (x := ⟨4, 0, bs (stampB v.n)⟩) (ok := true) (hp3.trans hp4) (by rw [e]; rfl) (by rw [e]; rfl)⟩
  refine Br.and' (fun k1 k2 => ?_) (fun n43 => Br.and' (fun k1 k2 => ?_) (fun n14 => Br.and' (fun k1 k2 => ?_) (fun n41 => ?_)))
  · have e : convO g.kind b v = some ⟨3, (unstampS v.s.data.toList).1, ⟨#[]⟩⟩ := by unfold convO; rw [if_neg e0, if_neg n24, if_neg n42, if_neg n34, if_pos ⟨k1, k2⟩]
    refine ⟨_, cl q1 2, (rUnstamp_c v.s sz w2).mono ?_⟩
    rintro e w3 ⟨rfl, hp3⟩
    refine ⟨_, _, rfl, (rDate_c _ w3).mono ?_⟩
    rintro e w4 ⟨rfl, hp4⟩
    exact ⟨_, _, _, rfl, out (x := ⟨3, (unstampS v.s.data.toList).1, ⟨#[]⟩⟩) (ok := true) (hp3.trans hp4) (by rw [e]; rfl) (by rw [e]; rfl)⟩
  · have e : convO g.kind b v = some ⟨4, 0, bs [if v.n = 1 then 84 else 70]⟩ := by unfold convO; rw [if_neg e0, if_neg n24, if_neg n42, if_neg n34, if_neg n43, if_pos ⟨k1, k2⟩]
    refine ⟨_, cl q1 1, Br.of (fun q => (rText_c _ w2).mono ?_) (fun q => (rText_c _ w2).mono ?_)⟩
    · rintro e w3 ⟨rfl, hp3⟩
      rw [if_pos (btrue q)] at e
      exact ⟨_, _, _, rfl, out (x := ⟨4, 0, bs [84]⟩) (ok := true) hp3 (by rw [e]; rfl) (by rw [e]; rfl)⟩
    · rintro e w3 ⟨rfl, hp3⟩
      rw [if_neg (bfalse q)] at e
      exact ⟨_, _, _, rfl, out (x := ⟨4, 0, bs [70]⟩) (ok := true) hp3 (by rw [e]; rfl) (by rw [e]; rfl)⟩
  · have e : convO g.kind b v = some ⟨1, if tB v.s.data.toList then 1 else 0, ⟨#[]⟩⟩ := by unfold convO; rw [if_neg e0, if_neg n24, if_neg n42, if_neg n34, if_neg n43, if_neg n14, if_pos ⟨k1, k2⟩]
    have tr : ∀ {bb : Bool}, bb = tB v.s.data.toList -> Calls Tryz.prog 124 #[.bool bb] w2 fun e w69 => ∃ n108_0 : Int, ∃ n108_1 : Int, ∃ s108_2 : ByteArray, e = .returned (.agg #[.int .i64 n108_0, .int .i64 n108_1, .string s108_2]) /\
        stA Tryz.prog 25 (⟨w1.heap.size, 0, none⟩ : Addr) #[.int .i64 n108_0, .int .i64 n108_1, .string s108_2] w69 fun w3 =>
        ∃ nR0_0 : Int, w3.cell? ((⟨w1.heap.size, 0, none⟩ : Addr).add 0) = some (.int .i64 nR0_0) /\ ∃ nR0_1 : Int, w3.cell? ((⟨w1.heap.size, 0, none⟩ : Addr).add 1) = some (.int .i64 nR0_1) /\ ∃ sR0_2 : ByteArray, w3.cell? ((⟨w1.heap.size, 0, none⟩ : Addr).add 2) = some (.string sR0_2) /\
        (Ending.returned (.tuple #[.agg #[.int .i64 nR0_0, .int .i64 nR0_1, .string sR0_2], .bool true]) = .returned (.tuple #[valA ((convO g.kind b v).getD noV), .bool (convO g.kind b v).isSome]) /\ Pu w w3) := fun {bb} hbb => by
      refine (rTruth_c bb w2).mono ?_
      rintro e' w3 ⟨rfl, hp3⟩
      exact ⟨_, _, _, rfl, out (x := ⟨1, if bb then 1 else 0, ⟨#[]⟩⟩) (ok := true) hp3 (by rw [e, hbb]; rfl) (by rw [e]; rfl)⟩
    refine ⟨_, cl q1 2, ?_⟩
    rw [toList_nil]
    refine Br.of (fun q => ?_) (fun q => tr ?_)
    · have hne : v.s.size ≠ 0 := by simpa using q
      obtain ⟨c, hc1, hc⟩ := at_byte (s := v.s) (k := 0) (by omega)
      have hc0 : v.s[((0 : Int)).toNat]? = some c := hc1
      have hh : v.s.data.toList.head? = some c := by rw [List.head?_eq_getElem?]; exact hc
      refine ⟨_, cl q1 2, c, by omega, hc0, Br.of (fun q2 => tr ?_) (fun q2 => ⟨_, cl q1 2, c, by omega, hc0, tr ?_⟩)⟩
      · have : c = 84 := by apply UInt8.toNat_inj.1; have := btrue q2; show c.toNat = 84; omega
        unfold tB; rw [hh, this]; rfl
      · have hc84 : c ≠ 84 := fun e => by subst e; exact bfalse q2 rfl
        unfold tB; rw [hh, decide_eq_false (by simpa using hc84), Bool.false_or, beq_dec]
        refine dec_eq ⟨fun h => ?_, fun h => ?_⟩
        · congr 1; apply UInt8.toNat_inj.1; show c.toNat = 116; omega
        · have := Option.some.inj h; subst this; rfl
    · have h0 : v.s.size = 0 := by simpa using q
      have : v.s.data.toList = [] := List.length_eq_zero_iff.1 (by rw [size_list]; exact h0)
      unfold tB; rw [this]; rfl
  · have e : convO g.kind b v = none := by unfold convO; rw [if_neg e0, if_neg n24, if_neg n42, if_neg n34, if_neg n43, if_neg n14, if_neg n41]
    exact out (x := noV) (ok := false) (Pu.refl _) (by rw [e]; rfl) (by rw [e]; rfl)
theorem show_c {n : Int} (h : -1000000000000000 <= n /\ n <= 1000000000000000) (w : World) : Calls Tryz.prog 150 #[valA ⟨2, n, ⟨#[]⟩⟩] w fun e w' => e = .returned (.tuple #[.string (bs (decI n)), .int .i64 0]) /\ Pu w w' := by
  refine F150_calls _ _ _ w _ (alB fun w1 hp1 hb1 => ⟨_, cl hb1 0, _, cl hb1 1, _, cl hb1 2, (valid_c ⟨2, n, ⟨#[]⟩⟩ w1).mono ?_⟩)
  rintro e w2 ⟨rfl, hp2⟩
  have hv : validV ⟨2, n, ⟨#[]⟩⟩ = 0 := by unfold validV okN; simp [h.1, h.2]; decide
  rw [hv]
  refine ⟨_, rfl, Br.f rfl ⟨_, cl0 (hp2.blk hb1), Br.f rfl (Br.t rfl ⟨_, cl (hp2.blk hb1) 1, (dec_c (n := n) (by omega) (by omega) w2).mono ?_⟩)⟩⟩
  rintro e w3 ⟨rfl, hp3⟩
  exact ⟨_, rfl, rfl, (hp1.trans hp2).trans hp3⟩
theorem conv_c {g f : Fld} {p : Int} {v : Val} (h : RightV g p v) (hk0 : v.kind ≠ 0) (w : World) : Calls Tryz.prog 117 #[fldA g, fldA f, valA v] w fun e w' => e = .returned (valA ((convO g.kind f.kind v).getD (emptyV f))) /\ Pu w w' := by
  refine F117_calls _ _ _ _ _ _ _ _ _ _ _ w _ (alB fun w1 hp1 hb1 => alB fun w2 hp2 hb2 => alB fun w3 hp3 hb3 => alB fun w4 hp4 hb4 => ?_)
  have hp := ((hp1.trans hp2).trans hp3).trans hp4
  have q1 := ((hp2.trans hp3).trans hp4).blk hb1
  have q2 := (hp3.trans hp4).blk hb2
  have q3 := hp4.blk hb3
  have l1 := ((hp1.trans hp2).trans hp3).size
  have sz : v.s.size <= 140737488355328 := by
    have := h.valid
    have := (valid_ok this).1
    omega
  have out : ∀ {x : Val} {w' : World}, Pu w4 w' -> x = (convO g.kind f.kind v).getD (emptyV f) -> stA Tryz.prog 25 (⟨w3.heap.size, 0, none⟩ : Addr) #[.int .i64 x.kind, .int .i64 x.n, .string x.s] w' fun w5 =>
      ∃ nR0_0 : Int, w5.cell? ((⟨w3.heap.size, 0, none⟩ : Addr).add 0) = some (.int .i64 nR0_0) /\ ∃ nR0_1 : Int, w5.cell? ((⟨w3.heap.size, 0, none⟩ : Addr).add 1) = some (.int .i64 nR0_1) /\ ∃ sR0_2 : ByteArray, w5.cell? ((⟨w3.heap.size, 0, none⟩ : Addr).add 2) = some (.string sR0_2) /\
      (Ending.returned (.agg #[.int .i64 nR0_0, .int .i64 nR0_1, .string sR0_2]) = .returned (valA ((convO g.kind f.kind v).getD (emptyV f))) /\ Pu w w5) := fun {x w'} hz h1 =>
    stA_fill (hz.blk hb4) s25.symm rfl rfl fun w5 hb5 hf5 hs5 => ⟨_, cl hb5 0, _, cl hb5 1, _, cl hb5 2, by rw [← h1], (hp.trans hz).andNew hf5 fun i hi => by omega⟩
  have no : ∀ {x y : Int}, ((g.kind == x) && (f.kind == y)) = false -> ¬ (g.kind = x /\ f.kind = y) := fun {x y} hh hc => by rw [hc.1, hc.2] at hh; simp at hh
  have yes : ∀ {x y : Int}, ((g.kind == x) && (f.kind == y)) = true -> g.kind = x /\ f.kind = y := fun {x y} hh => by simpa using hh
  have ne : ∀ {x y : Int}, x ≠ y -> g.kind = x /\ f.kind = y -> ¬ (v.kind = 0 ∨ g.kind = f.kind) := fun {x y} hxy hh hc => by rcases hc with hc | hc; exact hk0 hc; omega
  refine ⟨_, cl q1 1, _, cl q2 1, _, w4, eqArr2 _ _ _ _ _ _ _, Br.of (fun d => ?_) (fun d => ?_)⟩
  · have k := yes d
    have e : convO g.kind f.kind v = some ⟨4, 0, bs (decI v.n)⟩ := by unfold convO; rw [if_neg (ne (by decide) k), if_pos k]
    obtain ⟨hv, hn⟩ : v = ⟨2, v.n, ⟨#[]⟩⟩ /\ (-1000000000000000 <= v.n /\ v.n <= 1000000000000000) := by
      cases h with
      | nil hv hn => rw [hv] at hk0; exact absurd rfl hk0
      | num hk hw hv hn hl => exact ⟨hv, hn⟩
      | _ => omega
    refine ⟨_, cl q3 0, _, cl q3 1, _, cl q3 2, ?_⟩
    have := show_c hn w4
    rw [← hv] at this
    refine this.mono ?_
    rintro e' w5 ⟨rfl, hp5⟩
    exact ⟨_, _, rfl, out (x := ⟨4, 0, bs (decI v.n)⟩) hp5 (by rw [e]; rfl)⟩
  have n24 := no d
  refine ⟨_, w4, eqArr2 _ _ _ _ _ _ _, Br.of (fun d => ?_) (fun d => ?_)⟩
  · have k := yes d
    have e : convO g.kind f.kind v = some ⟨2, valS v.s.data.toList, ⟨#[]⟩⟩ := by unfold convO; rw [if_neg (ne (by decide) k), if_neg n24, if_pos k]
    refine ⟨_, cl q3 2, (val_c v.s sz w4).mono ?_⟩
    rintro e' w5 ⟨rfl, hp5⟩
    exact ⟨_, rfl, out (x := ⟨2, valS v.s.data.toList, ⟨#[]⟩⟩) hp5 (by rw [e]; rfl)⟩
  have n42 := no d
  refine ⟨_, w4, eqArr2 _ _ _ _ _ _ _, Br.of (fun d => ?_) (fun d => ?_)⟩
  · have k := yes d
    have e : convO g.kind f.kind v = some ⟨4, 0, bs (stampB v.n)⟩ := by unfold convO; rw [if_neg (ne (by decide) k), if_neg n24, if_neg n42, if_pos k]
    have hn : 0 <= v.n /\ v.n <= 3652059 := by
      cases h with
      | nil hv hn => rw [hv] at hk0; exact absurd rfl hk0
      | date hk hw hv hn => exact hn
      | _ => omega
    refine ⟨_, cl q2 0, _, cl q2 1, _, cl q2 2, _, cl q2 3, _, cl q3 0, _, cl q3 1, _, cl q3 2, ?_⟩
    refine F129_calls _ _ _ _ _ _ _ w4 _ (alB fun w5 hp5 hb5 => alB fun w6 hp6 hb6 => ⟨_, cl hb6 1, (stamp_c v.n hn w6).mono ?_⟩)
    rintro e' w7 ⟨rfl, _, hp7⟩
    exact ⟨_, _, rfl, _, rfl, out (x := ⟨4, 0, bs (stampB v.n)⟩) ((hp5.trans hp6).trans hp7) (by rw [e]; rfl)⟩
  have n34 := no d
  refine ⟨_, w4, eqArr2 _ _ _ _ _ _ _, Br.of (fun d => ?_) (fun d => ?_)⟩
  · have k := yes d
    have e : convO g.kind f.kind v = some ⟨3, (unstampS v.s.data.toList).1, ⟨#[]⟩⟩ := by unfold convO; rw [if_neg (ne (by decide) k), if_neg n24, if_neg n42, if_neg n34, if_pos k]
    refine ⟨_, cl q3 2, (unstamp_c v.s sz w4).mono ?_⟩
    rintro e' w5 ⟨rfl, hp5⟩
    exact ⟨_, _, rfl, out (x := ⟨3, (unstampS v.s.data.toList).1, ⟨#[]⟩⟩) hp5 (by rw [e]; rfl)⟩
  have n43 := no d
  refine ⟨_, w4, eqArr2 _ _ _ _ _ _ _, Br.of (fun d => ?_) (fun d => ?_)⟩
  · have k := yes d
    have e : convO g.kind f.kind v = some ⟨4, 0, bs [if v.n = 1 then 84 else 70]⟩ := by unfold convO; rw [if_neg (ne (by decide) k), if_neg n24, if_neg n42, if_neg n34, if_neg n43, if_pos k]
    have hn : v.n = 0 ∨ v.n = 1 := by
      cases h with
      | nil hv hn => rw [hv] at hk0; exact absurd rfl hk0
      | truth hk hw hv hn => exact hn
      | _ => omega
    refine ⟨_, cl q2 0, _, cl q2 1, _, cl q2 2, _, cl q2 3, _, cl q3 0, _, cl q3 1, _, cl q3 2, ?_⟩
    refine F125_calls _ _ _ _ _ _ _ w4 _ (alB fun w5 hp5 hb5 => alB fun w6 hp6 hb6 => ⟨_, cl hb6 1, _, cl hb6 1, ?_⟩)
    rcases hn with hn | hn
    · rw [hn, wrap_in (by decide) (by decide)]
      exact ⟨by decide, by decide, by decide, by decide, _, rfl, out (x := ⟨4, 0, bs [70]⟩) (hp5.trans hp6) (by rw [e, hn]; rfl)⟩
    · rw [hn, wrap_in (by decide) (by decide)]
      exact ⟨by decide, by decide, by decide, by decide, _, rfl, out (x := ⟨4, 0, bs [84]⟩) (hp5.trans hp6) (by rw [e, hn]; rfl)⟩
  have n14 := no d
  refine ⟨_, w4, eqArr2 _ _ _ _ _ _ _, Br.of (fun d => ?_) (fun d => ?_)⟩
  · have k := yes d
    have e : convO g.kind f.kind v = some ⟨1, if tB v.s.data.toList then 1 else 0, ⟨#[]⟩⟩ := by unfold convO; rw [if_neg (ne (by decide) k), if_neg n24, if_neg n42, if_neg n34, if_neg n43, if_neg n14, if_pos k]
    refine ⟨_, cl q3 2, (prefix_c v.s 84 w4).mono ?_⟩
    rintro e' w5 ⟨rfl, hp5⟩
    refine ⟨_, rfl, Br.of (fun d1 => ?_) (fun d1 => ⟨_, cl (hp5.blk q3) 2, (prefix_c v.s 116 w5).mono ?_⟩)⟩
    · exact out (x := ⟨1, 1, ⟨#[]⟩⟩) hp5 (by rw [e]; unfold tB; rw [d1]; rfl)
    · rintro e' w6 ⟨rfl, hp6⟩
      refine ⟨_, rfl, Br.of (fun d2 => ?_) (fun d2 => ?_)⟩
      · exact out (x := ⟨1, 1, ⟨#[]⟩⟩) (hp5.trans hp6) (by rw [e]; unfold tB; rw [d1, d2]; rfl)
      · exact out (x := ⟨1, 0, ⟨#[]⟩⟩) (hp5.trans hp6) (by rw [e]; unfold tB; rw [d1, d2]; rfl)
  have n41 := no d
  refine ⟨_, cl q1 1, _, cl q2 1, Br.of (fun d => ⟨_, cl q2 0, _, cl q2 1, _, cl q2 2, _, cl q2 3, (empty_c f w4).mono ?_⟩) (fun d => ⟨_, cl q3 0, _, cl q3 1, _, cl q3 2, out (x := v) (Pu.refl _) ?_⟩)⟩
  · have hab := bntrue d
    have e : convO g.kind f.kind v = none := by unfold convO; rw [if_neg (fun hc => hc.elim hk0 hab), if_neg n24, if_neg n42, if_neg n34, if_neg n43, if_neg n14, if_neg n41]
    rintro e' w5 ⟨rfl, hp5⟩
    exact ⟨_, _, _, rfl, out (x := emptyV f) hp5 (by rw [e]; rfl)⟩
  · unfold convO; rw [if_pos (.inr (bnfalse d))]; rfl
end Go.Proofs.YtecmfdfhpldmmaaGreatDoor
