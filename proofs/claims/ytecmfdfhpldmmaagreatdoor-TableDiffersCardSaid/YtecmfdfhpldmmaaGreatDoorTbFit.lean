import Derived.Test.YtecmfdfhpldmmaaGreatDoorTbLow
import Derived.Test.YtecmfdfhpldmmaaGreatDoorTbFfit
import Derived.Test.YtecmfdfhpldmmaaGreatDoorShThirteen
/- Table: what a value becomes in a field. No condition. -/
set_option maxRecDepth 100000
set_option linter.unusedVariables false
set_option linter.unusedSimpArgs false
namespace Go.Proofs.YtecmfdfhpldmmaaGreatDoor
open Go.Sh Go.RowKit

theorem min_run (ts : Array TypeId) (r : TypeId) (k : IntKind) (a b : Int) (w : World) : (Builtin.min_ ts r #[.int k a, .int k b]).run Tryz.prog w = .ok (.int k (min a b)) w := by
  rw [run_min_int2]; congr 2; omega
theorem valid_ok {v : Val} (h : validV v = 0) : v.s.size ≤ 2048 ∧ okN v.kind v.n = true ∧ (v.kind = 4 ∨ v.s.size = 0) := by
  rw [validV_eq] at h
  by_cases h1 : 2048 < v.s.size
  · rw [if_pos h1] at h; omega
  · rw [if_neg h1] at h
    cases h2 : valueB v
    · rw [h2] at h; simp at h
    · unfold valueB at h2; simp at h2; exact ⟨by omega, h2.1, h2.2.imp id fun e => by rw [e]; rfl⟩
/-! ### Numbers in a field -/
def strL (n w : Int) : List UInt8 := if w < (decI n).length then List.replicate w.toNat 42 else List.replicate (w.toNat - (decI n).length) 32 ++ decI n
theorem str_c {n w : Int} (h1 : -1000000000000000 ≤ n ∧ n ≤ 1000000000000000) (h2 : 1 ≤ w ∧ w ≤ 254) (W : World) : Calls Tryz.prog 53 #[.int .i64 n, .int .i64 w] W fun e W' => e = .returned (.tuple #[.string (bs (strL n w)), .int .i64 0]) ∧ Pu W W' := by
  refine F53_calls _ _ W _ ((isNum_c n W).mono ?_)
  rintro e W1 ⟨rfl, hp1⟩
  refine ⟨_, rfl, ?_⟩
  rw [decide_eq_true h1.1, decide_eq_true h1.2]
  refine Br.f rfl (Br.of (fun d => absurd (dtrue d) (by omega)) (fun _ => Br.of (fun d => absurd (dtrue d) (by omega)) (fun _ => (dec_c (by omega) (by omega) W1).mono ?_)))
  rintro e W2 ⟨rfl, hp2⟩
  have es := bs_size (decI n)
  refine ⟨_, rfl, Br.of (fun d => ?_) (fun d => ?_)⟩
  · have d := dtrue d
    have e1 : w = ((w.toNat : Nat) : Int) := by omega
    rw [show (Value.int .i64 w) = .int .i64 ((w.toNat : Nat) : Int) by rw [← e1]]
    refine (repeat_c 42 w.toNat (by omega) W2).mono ?_
    rintro e W3 ⟨rfl, hp3⟩
    exact ⟨_, rfl, by unfold strL; rw [if_pos (by omega)], (hp1.trans hp2).trans hp3⟩
  · have d := dfalse d
    rw [F53_1, wrap_in (by omega) (by omega)]
    have e1 : w - (((bs (decI n)).size : Nat) : Int) = ((w.toNat - (decI n).length : Nat) : Int) := by omega
    rw [e1]
    refine (repeat_c 32 _ (by omega) W2).mono ?_
    rintro e W3 ⟨rfl, hp3⟩
    refine ⟨_, rfl, ?_, ?_, (hp1.trans hp2).trans hp3⟩
    · rw [bs_size, bs_size]; simp only [List.length_replicate]; omega
    · rw [bs_append]; unfold strL; rw [if_neg (by omega)]
theorem prefix_c (s : ByteArray) (b : UInt8) (w : World) : Calls Tryz.prog 54 #[.string s, .string ⟨#[b]⟩] w fun e w' => e = .returned (.bool (decide (s.data.toList.head? = some b))) ∧ Pu w w' :=
  (Any.strings_HasPrefix Tryz.lays99 s ⟨#[b]⟩ w).mono fun e w' ⟨h1, h2⟩ => ⟨by
    rw [h1]; congr 2
    show Lib.hasPrefix s.data.toList [b] = _
    unfold Lib.hasPrefix
    cases s.data.toList with
    | nil => rfl
    | cons a l =>
      rw [List.isPrefixOf_cons_cons, List.isPrefixOf_nil_left, Bool.and_true]
      by_cases h : b = a
      · simp [h]
      · simp [h, Ne.symm h], h2 ▸ Pu.refl _⟩
theorem decI_head (n : Int) : ∃ b l, decI n = b :: l ∧ b ≠ 42 := by
  by_cases h : n < 0
  · exact ⟨45, _, decI_neg h, by decide⟩
  · have hn : decI n = decN n.natAbs := by unfold decI; rw [if_neg h]
    cases hl : decN n.natAbs with
    | nil => have := decN_pos n.natAbs; rw [hl] at this; simp at this
    | cons b l =>
      refine ⟨b, l, by rw [hn, hl], fun e => ?_⟩
      have := decN_digit n.natAbs b (by rw [hl]; simp)
      rw [e] at this; simp at this
theorem strL_head {n w : Int} (h : 1 ≤ w) : decide ((strL n w).head? = some 42) = decide (w < (decI n).length) := by
  obtain ⟨b, l, hd, hb⟩ := decI_head n
  unfold strL
  by_cases h1 : w < (decI n).length
  · rw [if_pos h1, decide_eq_true h1]
    obtain ⟨k, hk⟩ : ∃ k, w.toNat = k + 1 := ⟨w.toNat - 1, by omega⟩
    rw [hk, List.replicate_succ]; simp
  · rw [if_neg h1, decide_eq_false h1]
    cases hm : w.toNat - (decI n).length with
    | zero => rw [hd]; simp [hb]
    | succ m => simp [List.replicate_succ]
/-! ### What is handed back -/
theorem retV {w : World} {r : Nat} {c : Array Value} (v : Val) (k : Int) {R : Rt} (hb : w.heap[r]? = some (.cells c 25)) (hc : c.size = 3) (hR : ∀ w', Fr (· = r) w w' → R (.returned (.tuple #[valA v, .int .i64 k])) w') :
    stA Tryz.prog 25 (⟨r, 0, none⟩ : Addr) #[.int .i64 v.kind, .int .i64 v.n, .string v.s] w fun w' => ∃ n0 : Int, w'.cell? ((⟨r, 0, none⟩ : Addr).add 0) = some (.int .i64 n0) ∧ ∃ n1 : Int, w'.cell? ((⟨r, 0, none⟩ : Addr).add 1) = some (.int .i64 n1) ∧
      ∃ s2 : ByteArray, w'.cell? ((⟨r, 0, none⟩ : Addr).add 2) = some (.string s2) ∧ R (.returned (.tuple #[.agg #[.int .i64 n0, .int .i64 n1, .string s2], .int .i64 k])) w' :=
  stA_fill hb s25.symm (by rw [hc]; rfl) rfl fun w' hb' hf _ => ⟨_, cl hb' 0, _, cl hb' 1, _, cl hb' 2, hR w' hf⟩
theorem fitS_wrong {f : Fld} {p : Int} {v : Val} (h : (fieldB f && pageB p) = false) : fitS f p v = (noV, 1) := by unfold fitS; rw [h]; rfl
theorem fitS_invalid {f : Fld} {p : Int} {v : Val} (h : (fieldB f && pageB p) = true) (h2 : validV v ≠ 0) : fitS f p v = (noV, validV v) := by unfold fitS; rw [h, if_pos rfl, if_pos h2]
theorem fitS_fitted {f : Fld} {p : Int} {v : Val} (h : (fieldB f && pageB p) = true) (h2 : validV v = 0) : fitS f p v = fitted f p v := by unfold fitS; rw [h, if_pos rfl, if_neg (by omega)]
theorem fld_text {f : Fld} (h : fieldB f = true) (hk : f.kind = 4) : 1 ≤ f.width ∧ f.width ≤ 254 := by
  unfold fieldB kindW at h; rw [hk] at h; simp at h; exact h.2
theorem fld_num {f : Fld} (h : fieldB f = true) (hk : f.kind = 2) : 1 ≤ f.width ∧ f.width ≤ 15 := by
  unfold fieldB kindW at h; rw [hk] at h; simp at h; exact h.2
theorem take_min (l : List UInt8) (w : Int) (n : Nat) (hn : l.length = n) (hw : 0 ≤ w) : l.take (min (n : Int) w).toNat = l.take w.toNat := by
  by_cases h : (n : Int) ≤ w
  · rw [show (min (n : Int) w).toNat = n by omega, List.take_of_length_le (by omega), List.take_of_length_le (by omega)]
  · rw [show min (n : Int) w = w by omega]
theorem bare_le (l : List UInt8) : (bare l).length ≤ l.length := by
  unfold bare
  have h := List.IsSuffix.length_le (List.dropWhile_suffix (· == (32 : UInt8)) (l := l.reverse))
  simpa using h
theorem fit_c (f : Fld) (p : Int) (v : Val) (hs : f.name.size ≤ 140737488355328) (w : World) : Calls Tryz.prog 13 #[fldA f, .int .i64 p, valA v] w fun e w' =>
    e = .returned (.tuple #[valA (fitS f p v).1, .int .i64 (fitS f p v).2]) ∧ Pu w w' := by
  refine F13_calls _ _ _ _ _ _ _ _ w _ ?_
  refine alB fun w1 hp1 hb1 => alB fun w2 hp2 hb2 => alB fun w3 hp3 hb3 => ?_
  have z1 : w1.heap.size ≤ w2.heap.size := hp2.size
  have z0 : w.heap.size ≤ w1.heap.size := hp1.size
  have l1 : w.heap.size < w1.heap.size := blk_lt hb1
  have l2 : w1.heap.size < w2.heap.size := blk_lt hb2
  have hp03 : Pu w w3 := (hp1.trans hp2).trans hp3
  -- a value and a code are handed back
  have out : ∀ {wz : World} (v' : Val) (k : Int) {c : Array Value}, Pu w wz → wz.heap[w2.heap.size]? = some (.cells c 25) → c.size = 3 → fitS f p v = (v', k) →
      stA Tryz.prog 25 (⟨w2.heap.size, 0, none⟩ : Addr) #[.int .i64 v'.kind, .int .i64 v'.n, .string v'.s] wz fun w' => ∃ n0 : Int, w'.cell? ((⟨w2.heap.size, 0, none⟩ : Addr).add 0) = some (.int .i64 n0) ∧ ∃ n1 : Int, w'.cell? ((⟨w2.heap.size, 0, none⟩ : Addr).add 1) = some (.int .i64 n1) ∧
        ∃ s2 : ByteArray, w'.cell? ((⟨w2.heap.size, 0, none⟩ : Addr).add 2) = some (.string s2) ∧ (Ending.returned (.tuple #[.agg #[.int .i64 n0, .int .i64 n1, .string s2], .int .i64 k]) = .returned (.tuple #[valA (fitS f p v).1, .int .i64 (fitS f p v).2]) ∧ Pu w w') := fun {wz} v' k {c} h1 h2 h3 h4 =>
    retV (R := fun e w' => e = .returned (.tuple #[valA (fitS f p v).1, .int .i64 (fitS f p v).2]) ∧ Pu w w') v' k h2 h3 fun w' hf => ⟨by rw [h4], h1.andNew hf fun i hi => by have hi : i = w2.heap.size := hi; omega⟩
  have b1 : ∀ {wz}, Pu w3 wz → wz.heap[w.heap.size]? = some (.cells #[.string f.name, .int .i64 f.kind, .int .i64 f.width, .bool f.null] 23) := fun h => h.blk (hp3.blk (hp2.blk hb1))
  have b2 : ∀ {wz}, Pu w3 wz → wz.heap[w1.heap.size]? = some (.cells #[.int .i64 v.kind, .int .i64 v.n, .string v.s] 25) := fun h => h.blk (hp3.blk hb2)
  have b3 : ∀ {wz}, Pu w3 wz → wz.heap[w2.heap.size]? = some (.cells #[.int .i64 0, .int .i64 0, .string ⟨#[]⟩] 25) := fun h => h.blk hb3
  have q0 := b1 (Pu.refl w3)
  refine ⟨_, cl q0 0, _, cl q0 1, _, cl q0 2, _, cl q0 3, (isField_c f hs w3).mono ?_⟩
  rintro e w4 ⟨rfl, hp4⟩
  refine ⟨_, rfl, Br.of (fun d => out noV 1 (hp03.trans hp4) (b3 hp4) rfl (fitS_wrong (by simp at d; simp [d]))) (fun d => (isPage_c p w4).mono ?_)⟩
  have hfB : fieldB f = true := by simpa using d
  rintro e w5 ⟨rfl, hp5⟩
  have hp35 := hp4.trans hp5
  refine ⟨_, rfl, Br.of (fun d => out noV 1 (hp03.trans hp35) (b3 hp35) rfl (fitS_wrong (by simp at d; simp [d]))) (fun d => ?_)⟩
  have hpB : pageB p = true := by simpa using d
  have hB : (fieldB f && pageB p) = true := by rw [hfB, hpB]; rfl
  refine ⟨_, cl (b2 hp35) 0, _, cl (b2 hp35) 1, _, cl (b2 hp35) 2, (valid_c v w5).mono ?_⟩
  rintro e w6 ⟨rfl, hp6⟩
  have hp36 := hp35.trans hp6
  have hp06 := hp03.trans hp36
  refine ⟨_, rfl, Br.of (fun d => out noV (validV v) hp06 (b3 hp36) rfl (fitS_invalid hB (bntrue d))) (fun d => ?_)⟩
  have hv := bnfalse d
  obtain ⟨hvs, hvn, hv4⟩ := valid_ok hv
  have hF := fitS_fitted (f := f) (p := p) hB hv
  refine ⟨_, cl0 (b2 hp36), Br.of (fun d0 => ⟨_, cl (b1 hp36) 3, Br.of (fun d1 => out noV 7 hp06 (b3 hp36) rfl ?_) (fun d1 => ⟨_, cl (b2 hp36) 0, _, cl (b2 hp36) 1, _, cl (b2 hp36) 2, out v 0 hp06 (b3 hp36) rfl ?_⟩)⟩) (fun d0 => ?_)⟩
  · rw [hF]; unfold fitted; rw [if_pos (btrue d0), show f.null = false by simpa using d1]; rfl
  · rw [hF]; unfold fitted; rw [if_pos (btrue d0), show f.null = true by simpa using d1]; rfl
  have d0 := bfalse d0
  refine dwE_intro fun w7 hp7 hh7 => ⟨fun u => Pu w7 u, Pu.refl _, v.kind, fun u hu => cl0 (b2 ((hp36.trans hp7).trans hu)), f.name, fun u hu => cl (b1 ((hp36.trans hp7).trans hu)) 0, f.kind, fun u hu => cl (b1 ((hp36.trans hp7).trans hu)) 1, f.width, fun u hu => cl (b1 ((hp36.trans hp7).trans hu)) 2, f.null, fun u hu => cl (b1 ((hp36.trans hp7).trans hu)) 3, (empty_c f w7).mono ?_⟩
  rintro e w8 ⟨rfl, hp8⟩
  have hp38 := (hp36.trans hp7).trans hp8
  have hp08 := hp03.trans hp38
  refine ⟨_, _, _, rfl, hp8, Br.of (fun d1 => out noV 6 hp08 (b3 hp38) rfl ?_) (fun d1 => ⟨_, cl (b1 hp38) 1, ?_⟩)⟩
  · rw [hF]; unfold fitted; rw [if_neg d0, if_pos (bntrue d1)]
  have d1 := bnfalse d1
  have hF2 : fitS f p v = if f.kind = 4 then (if textB (bare (v.s.data.toList.take f.width.toNat)) p then (⟨4, 0, bs (bare (v.s.data.toList.take f.width.toNat))⟩, 0) else (noV, 10)) else if fitsV f p v then (v, 0) else (noV, 10) := by
    rw [hF]; unfold fitted; rw [if_neg d0, if_neg (by rw [d1]; simp)]
  have hv0 : ¬ validV v ≠ 0 := by omega
  -- what a value is that stays
  have stay : ∀ {wz : World}, Pu w3 wz → fitS f p v = (v, 0) → ∃ n0 : Int, wz.cell? ((⟨w1.heap.size, 0, none⟩ : Addr).add 0) = some (.int .i64 n0) ∧ ∃ n1 : Int, wz.cell? ((⟨w1.heap.size, 0, none⟩ : Addr).add 1) = some (.int .i64 n1) ∧ ∃ s2 : ByteArray, wz.cell? ((⟨w1.heap.size, 0, none⟩ : Addr).add 2) = some (.string s2) ∧
      stA Tryz.prog 25 (⟨w2.heap.size, 0, none⟩ : Addr) #[.int .i64 n0, .int .i64 n1, .string s2] wz fun w' => ∃ n0 : Int, w'.cell? ((⟨w2.heap.size, 0, none⟩ : Addr).add 0) = some (.int .i64 n0) ∧ ∃ n1 : Int, w'.cell? ((⟨w2.heap.size, 0, none⟩ : Addr).add 1) = some (.int .i64 n1) ∧
        ∃ s2 : ByteArray, w'.cell? ((⟨w2.heap.size, 0, none⟩ : Addr).add 2) = some (.string s2) ∧ (Ending.returned (.tuple #[.agg #[.int .i64 n0, .int .i64 n1, .string s2], .int .i64 0]) = .returned (.tuple #[valA (fitS f p v).1, .int .i64 (fitS f p v).2]) ∧ Pu w w') := fun {wz} h h2 =>
    ⟨_, cl (b2 h) 0, _, cl (b2 h) 1, _, cl (b2 h) 2, out v 0 (hp03.trans h) (b3 h) rfl h2⟩
  refine Br.of (fun d2 => ?_) (fun d2 => Br.of (fun d3 => ?_) (fun d3 => Br.of (fun d4 => ?_) (fun d4 => ?_)))
  · have d2 := btrue d2
    obtain ⟨wl, wh⟩ := fld_text hfB d2
    rw [if_pos d2] at hF2
    refine ⟨_, cl (b2 hp38) 2, _, cl (b2 hp38) 2, _, cl (b1 hp38) 2, _, w8, min_run _ _ _ _ _ _, by omega, by omega, by omega, (trimRight_c _ (by have := extract_list v.s 0 (min (v.s.size : Int) f.width).toNat; have := size_list (v.s.extract 0 (min (v.s.size : Int) f.width).toNat); simp at *; omega) w8).mono ?_⟩
    rintro e w9 ⟨rfl, hp9⟩
    have et : (v.s.extract 0 (min (v.s.size : Int) f.width).toNat).data.toList = v.s.data.toList.take f.width.toNat := by
      rw [extract_list, List.drop_zero]; exact take_min _ _ _ (by simp) (by omega)
    rw [et]
    have hp39 := hp38.trans hp9
    have hkind : v.kind = 4 := by rw [d1]; unfold emptyV; rw [if_neg (by omega)]; exact d2
    have hn0 : v.n = 0 := by rw [hkind] at hvn; simpa [okN] using hvn
    have hbl : (bs (bare (v.s.data.toList.take f.width.toNat))).size ≤ 2048 := by
      rw [bs_size]; have := bare_le (v.s.data.toList.take f.width.toNat); have := List.length_take_le f.width.toNat v.s.data.toList; have := List.length_take_le' f.width.toNat v.s.data.toList; rw [size_list] at this; omega
    generalize hg : bare (v.s.data.toList.take f.width.toNat) = B at *
    refine ⟨_, rfl, ?_⟩
    rw [ptrE_some, add_def, Nat.zero_add]
    refine st1_intro (b2 hp39) (show 2 < 3 by omega) fun w10 hw10 hb10 => ?_
    have hf10 : Fr (· = w1.heap.size) w9 w10 := by rw [hw10]; exact Fr.cell w9 _ 2 _
    have hb10' : w10.heap[w1.heap.size]? = some (.cells #[.int .i64 v.kind, .int .i64 v.n, .string (bs B)] 25) := hb10
    have hpu10 : Pu w w10 := (hp03.trans hp39).andNew hf10 fun i hi => by have hi : i = w1.heap.size := hi; omega
    have hb310 := hf10.blk (b3 hp39) (show ¬ w2.heap.size = w1.heap.size by omega)
    refine ⟨_, cl hb10' 2, (isText_c _ hbl hpB w10).mono ?_⟩
    rintro e w11 ⟨rfl, hp11⟩
    rw [bs_list]
    refine ⟨_, rfl, Br.of (fun d3 => out noV 10 (hpu10.trans hp11) (hp11.blk hb310) rfl ?_) (fun d3 => ⟨_, cl (hp11.blk hb10') 0, _, cl (hp11.blk hb10') 1, _, cl (hp11.blk hb10') 2, ?_⟩)⟩
    · rw [hF2, show textB B p = false by simpa using d3]; rfl
    · rw [hkind, hn0]
      exact out ⟨4, 0, bs B⟩ 0 (hpu10.trans hp11) (hp11.blk hb310) rfl (by rw [hF2, show textB B p = true by simpa using d3]; rfl)
  · have d2 := bfalse d2
    have d3 := btrue d3
    obtain ⟨wl, wh⟩ := fld_num hfB d3
    have hkind : v.kind = 2 := by rw [d1]; unfold emptyV; rw [if_neg (by omega)]; exact d3
    have hn : -1000000000000000 ≤ v.n ∧ v.n ≤ 1000000000000000 := by rw [hkind] at hvn; simpa [okN] using hvn
    have hfit : fitsV f p v = decide (((decI v.n).length : Int) ≤ f.width) := by
      unfold fitsV; rw [if_neg hv0, if_neg d0, if_neg (by omega), if_neg (by rw [hkind, d3]; simp), if_pos d3]
    rw [if_neg d2, hfit] at hF2
    refine ⟨_, cl (b2 hp38) 1, _, cl (b1 hp38) 2, (str_c hn ⟨wl, by omega⟩ w8).mono ?_⟩
    rintro e w9 ⟨rfl, hp9⟩
    have hp39 := hp38.trans hp9
    refine ⟨_, _, rfl, Br.of (fun d4 => absurd rfl (bntrue d4)) (fun _ => (prefix_c _ 42 w9).mono ?_)⟩
    rintro e w10 ⟨rfl, hp10⟩
    have hp310 := hp39.trans hp10
    refine ⟨_, rfl, ?_⟩
    rw [bs_list, strL_head wl]
    refine Br.of (fun d4 => out noV 10 (hp03.trans hp310) (b3 hp310) rfl ?_) (fun d4 => stay hp310 ?_)
    · rw [hF2, decide_eq_false (by have := dtrue d4; omega)]; rfl
    · rw [hF2, decide_eq_true (by have := dfalse d4; omega)]; rfl
  · have d2 := bfalse d2
    have d4 := btrue d4
    have hkind : v.kind = 2 := by rw [d1]; unfold emptyV; rw [if_pos d4]
    have hfit : fitsV f p v = memoN v.n := by
      unfold fitsV; rw [if_neg hv0, if_neg d0, if_pos d4, hkind]; rfl
    rw [if_neg d2, hfit] at hF2
    refine ⟨_, cl (b2 hp38) 1, Br.of (fun d5 => out noV 10 hp08 (b3 hp38) rfl ?_) (fun d5 => ⟨_, cl (b2 hp38) 1, Br.of (fun d6 => out noV 10 hp08 (b3 hp38) rfl ?_) (fun d6 => stay hp38 ?_)⟩)⟩
    · rw [hF2, show memoN v.n = false by unfold memoN; rw [decide_eq_false (by have := dtrue d5; omega)]; rfl]; rfl
    · rw [hF2, show memoN v.n = false by unfold memoN; rw [decide_eq_false (show ¬ v.n ≤ 99999999 by have := dtrue d6; omega)]; simp]; rfl
    · rw [hF2, show memoN v.n = true by unfold memoN; rw [decide_eq_true (show 0 ≤ v.n by have := dfalse d5; omega), decide_eq_true (show v.n ≤ 99999999 by have := dfalse d6; omega)]; rfl]; rfl
  · have d2 := bfalse d2
    have d3 := bfalse d3
    have d4 := bfalse d4
    have hfit : fitsV f p v = true := by
      unfold fitsV; rw [if_neg hv0, if_neg d0, if_neg d4, if_neg (by rw [d1]; unfold emptyV; rw [if_neg d4]; simp), if_neg d3, if_neg d2]
    rw [if_neg d2, hfit] at hF2
    exact stay hp38 hF2
end Go.Proofs.YtecmfdfhpldmmaaGreatDoor

/- Table: what a value becomes in a field, the reference. No condition. -/
set_option maxRecDepth 100000
set_option linter.unusedVariables false
set_option linter.unusedSimpArgs false
namespace Go.Proofs.YtecmfdfhpldmmaaGreatDoor
open Go.Sh Go.RowKit

theorem bs_eq_iff (l : List UInt8) (s : ByteArray) : bs l = s ↔ l = s.data.toList := by
  constructor
  · intro h; rw [← h]
  · intro h; rw [h]
theorem isMemo_c (n : Int) (w : World) : Calls Tryz.prog 147 #[.int .i64 n] w fun e w' => e = .returned (.bool (memoN n)) ∧ Pu w w' := by
  refine F147_calls _ w _ (Br.of (fun d => ?_) (fun d => ?_))
  · exact ⟨by rw [memoN, decide_eq_true (show 0 ≤ n from dtrue d)]; rfl, Pu.refl w⟩
  · exact ⟨by rw [memoN, decide_eq_false (show ¬ 0 ≤ n from dfalse d)]; rfl, Pu.refl w⟩
theorem rFits_c (f : Fld) (p : Int) (v : Val) (w : World) : Calls Tryz.prog 105 #[fldA f, .int .i64 p, valA v] w fun e w' => e = .returned (.bool (fitsV f p v)) ∧ Pu w w' := by
  refine F105_calls _ _ _ _ _ _ _ _ w _ ?_
  refine alB fun w1 hp1 hb1 => alB fun w2 hp2 hb2 => ?_
  have hp02 := hp1.trans hp2
  have b1 : ∀ {wz}, Pu w2 wz → wz.heap[w.heap.size]? = some (.cells #[.string f.name, .int .i64 f.kind, .int .i64 f.width, .bool f.null] 23) := fun h => h.blk (hp2.blk hb1)
  have b2 : ∀ {wz}, Pu w2 wz → wz.heap[w1.heap.size]? = some (.cells #[.int .i64 v.kind, .int .i64 v.n, .string v.s] 25) := fun h => h.blk hb2
  have q0 := b2 (Pu.refl w2)
  refine ⟨_, cl q0 0, _, cl q0 1, _, cl q0 2, (rValid_c v w2).mono ?_⟩
  rintro e w3 ⟨rfl, hp3⟩
  have hp03 := hp02.trans hp3
  have out : ∀ {wz : World} {b : Bool}, Pu w wz → fitsV f p v = b → (Ending.returned (Value.bool b) = Ending.returned (Value.bool (fitsV f p v)) ∧ Pu w wz) := fun h1 h2 => ⟨by rw [h2], h1⟩
  refine ⟨_, rfl, Br.of (fun d => out hp03 (by unfold fitsV; rw [if_pos (bntrue d)])) (fun d => ?_)⟩
  have hv := bnfalse d
  have hv0 : ¬ validV v ≠ 0 := by omega
  obtain ⟨hvs, hvn, hv4⟩ := valid_ok hv
  refine ⟨_, cl0 (b2 hp3), Br.of (fun d0 => ⟨_, cl (b1 hp3) 3, out hp03 (by unfold fitsV; rw [if_neg hv0, if_pos (btrue d0)])⟩) (fun d0 => ⟨_, cl (b1 hp3) 1, Br.of (fun d1 => ?_) (fun d1 => ?_)⟩)⟩
  · refine ⟨_, cl0 (b2 hp3), Br.of (fun d2 => ⟨_, cl (b2 hp3) 1, (isMemo_c v.n w3).mono ?_⟩) (fun d2 => out hp03 ?_)⟩
    · rintro e w4 ⟨rfl, hp4⟩
      exact ⟨_, rfl, out (hp03.trans hp4) (by unfold fitsV; rw [if_neg hv0, if_neg (bfalse d0), if_pos (btrue d1), decide_eq_true (btrue d2)]; rfl)⟩
    · unfold fitsV; rw [if_neg hv0, if_neg (bfalse d0), if_pos (btrue d1), decide_eq_false (bfalse d2)]; rfl
  have e0 : fitsV f p v = if v.kind ≠ f.kind then false else if f.kind = 2 then decide (((decI v.n).length : Int) ≤ f.width) else if f.kind = 4 then decide ((v.s.size : Int) ≤ f.width) && decide (bare v.s.data.toList = v.s.data.toList) && textB v.s.data.toList p else true := by
    unfold fitsV; rw [if_neg hv0, if_neg (bfalse d0), if_neg (bfalse d1)]
  refine ⟨_, cl0 (b2 hp3), _, cl (b1 hp3) 1, Br.of (fun d2 => out hp03 (by rw [e0, if_pos (bntrue d2)])) (fun d2 => ⟨_, cl (b1 hp3) 1, Br.of (fun d3 => ?_) (fun d3 => ⟨_, cl (b1 hp3) 1, Br.of (fun d4 => ?_) (fun d4 => out hp03 ?_)⟩)⟩)⟩
  · have d2 := bnfalse d2
    have d3 := btrue d3
    have hn : In64 v.n := by rw [d2, d3] at hvn; simp [okN] at hvn; exact ⟨by omega, by omega⟩
    refine dwE_intro fun w4 hp4 _ => ⟨fun u => Pu w4 u, Pu.refl _, v.n, fun u hu => cl (b2 ((hp3.trans hp4).trans hu)) 1, f.width, fun u hu => cl (b1 ((hp3.trans hp4).trans hu)) 2, (written_c hn w4).mono ?_⟩
    rintro e w5 ⟨rfl, hp5⟩
    refine ⟨_, rfl, hp5, out ((hp03.trans hp4).trans hp5) ?_⟩
    rw [e0, if_neg (by rw [d2]; simp), if_pos d3, bs_size]
  · have d2 := bnfalse d2
    have d3 := bfalse d3
    have d4 := btrue d4
    have e1 : fitsV f p v = (decide ((v.s.size : Int) ≤ f.width) && decide (bare v.s.data.toList = v.s.data.toList) && textB v.s.data.toList p) := by
      rw [e0, if_neg (by rw [d2]; simp), if_neg d3, if_pos d4]
    refine dwE_intro fun w4 hp4 _ => ⟨fun u => Pu w4 u, Pu.refl _, v.s, fun u hu => cl (b2 ((hp3.trans hp4).trans hu)) 2, f.width, fun u hu => cl (b1 ((hp3.trans hp4).trans hu)) 2, Br.of (fun d5 => ?_) (fun d5 => out (hp03.trans hp4) ?_)⟩
    · refine ⟨v.s, fun u hu => cl (b2 ((hp3.trans hp4).trans hu)) 2, v.s, fun u hu => cl (b2 ((hp3.trans hp4).trans hu)) 2, (rBare_c v.s (by omega) w4).mono ?_⟩
      rintro e w5 ⟨rfl, hp5⟩
      refine ⟨_, rfl, hp5, ?_⟩
      rw [toList_beq]
      have hbe : (bs (bare v.s.data.toList) = v.s) ↔ bare v.s.data.toList = v.s.data.toList := bs_eq_iff _ _
      refine Br.of (fun d6 => ⟨v.s, fun u hu => cl (b2 ((hp3.trans hp4).trans hu)) 2, (rWritten_c v.s (by omega) p w5).mono ?_⟩) (fun d6 => out ((hp03.trans hp4).trans hp5) ?_)
      · rintro e w6 ⟨rfl, hp6⟩
        refine ⟨_, rfl, out (((hp03.trans hp4).trans hp5).trans hp6) ?_⟩
        rw [e1, decide_eq_true (dtrue d5), decide_eq_true (hbe.1 (dtrue d6))]; rfl
      · rw [e1, decide_eq_false (fun h => dfalse d6 (hbe.2 h))]; simp
    · rw [e1, decide_eq_false (dfalse d5)]; rfl
  · rw [e0, if_neg (by rw [bnfalse d2]; simp), if_neg (bfalse d3), if_neg (bfalse d4)]
theorem rFitted_c (f : Fld) (p : Int) (v : Val) (hfB : fieldB f = true) (hvs : v.s.size ≤ 140737488355328) (w : World) : Calls Tryz.prog 58 #[fldA f, .int .i64 p, valA v] w fun e w' =>
    e = .returned (.tuple #[valA (fitted f p v).1, .int .i64 (fitted f p v).2]) ∧ Pu w w' := by
  refine F58_calls _ _ _ _ _ _ _ _ w _ ?_
  refine alB fun w1 hp1 hb1 => alB fun w2 hp2 hb2 => alB fun w3 hp3 hb3 => ?_
  have z1 : w1.heap.size ≤ w2.heap.size := hp2.size
  have z0 : w.heap.size ≤ w1.heap.size := hp1.size
  have hp03 : Pu w w3 := (hp1.trans hp2).trans hp3
  have out : ∀ {wz : World} (v' : Val) (k : Int) {c : Array Value}, Pu w wz → wz.heap[w2.heap.size]? = some (.cells c 25) → c.size = 3 → fitted f p v = (v', k) →
      stA Tryz.prog 25 (⟨w2.heap.size, 0, none⟩ : Addr) #[.int .i64 v'.kind, .int .i64 v'.n, .string v'.s] wz fun w' => ∃ n0 : Int, w'.cell? ((⟨w2.heap.size, 0, none⟩ : Addr).add 0) = some (.int .i64 n0) ∧ ∃ n1 : Int, w'.cell? ((⟨w2.heap.size, 0, none⟩ : Addr).add 1) = some (.int .i64 n1) ∧
        ∃ s2 : ByteArray, w'.cell? ((⟨w2.heap.size, 0, none⟩ : Addr).add 2) = some (.string s2) ∧ (Ending.returned (.tuple #[.agg #[.int .i64 n0, .int .i64 n1, .string s2], .int .i64 k]) = .returned (.tuple #[valA (fitted f p v).1, .int .i64 (fitted f p v).2]) ∧ Pu w w') := fun {wz} v' k {c} h1 h2 h3 h4 =>
    retV (R := fun e w' => e = .returned (.tuple #[valA (fitted f p v).1, .int .i64 (fitted f p v).2]) ∧ Pu w w') v' k h2 h3 fun w' hf => ⟨by rw [h4], h1.andNew hf fun i hi => by have hi : i = w2.heap.size := hi; omega⟩
  have b1 : ∀ {wz}, Pu w3 wz → wz.heap[w.heap.size]? = some (.cells #[.string f.name, .int .i64 f.kind, .int .i64 f.width, .bool f.null] 23) := fun h => h.blk (hp3.blk (hp2.blk hb1))
  have b2 : ∀ {wz}, Pu w3 wz → wz.heap[w1.heap.size]? = some (.cells #[.int .i64 v.kind, .int .i64 v.n, .string v.s] 25) := fun h => h.blk (hp3.blk hb2)
  have b3 : ∀ {wz}, Pu w3 wz → wz.heap[w2.heap.size]? = some (.cells #[.int .i64 0, .int .i64 0, .string ⟨#[]⟩] 25) := fun h => h.blk hb3
  have q1 := b1 (Pu.refl w3)
  have q2 := b2 (Pu.refl w3)
  have q3 := b3 (Pu.refl w3)
  refine ⟨_, cl0 q2, Br.of (fun d0 => ⟨_, cl q1 3, Br.of (fun d1 => out noV 7 hp03 q3 rfl ?_) (fun d1 => ⟨_, cl q2 0, _, cl q2 1, _, cl q2 2, out v 0 hp03 q3 rfl ?_⟩)⟩) (fun d0 => ⟨_, cl q1 1, ?_⟩)⟩
  · unfold fitted; rw [if_pos (btrue d0), show f.null = false by simpa using d1]; rfl
  · unfold fitted; rw [if_pos (btrue d0), show f.null = true by simpa using d1]; rfl
  have d0 := bfalse d0
  -- behind the question for the kind
  have rest : v.kind = (emptyV f).kind → ∀ (m : Int), f.kind = m →
      Br (m == 4) (∃ s31 : ByteArray, w3.cell? ((⟨w1.heap.size, 0, none⟩ : Addr).add 2) = some (.string s31) ∧ ∃ s33 : ByteArray, w3.cell? ((⟨w1.heap.size, 0, none⟩ : Addr).add 2) = some (.string s33) ∧ ∃ n36 : Int, w3.cell? ((⟨w.heap.size, 0, none⟩ : Addr).add 2) = some (.int .i64 n36) ∧
        ∃ n37 : Int, ∃ w10 : World, (Builtin.min_ #[3, 3] 3 #[.int .i64 ((s33.size : Nat) : Int), .int .i64 n36]).run Tryz.prog w3 = .ok (.int .i64 n37) w10 ∧ 0 ≤ n37 ∧ n37.toNat ≤ s31.size ∧ 0 ≤ n37.toNat ∧
        Calls Tryz.prog 103 #[.string (s31.extract 0 n37.toNat)] w10 fun e w11 => ∃ s39 : ByteArray, e = .returned (.string s39) ∧ Calls Tryz.prog 104 #[.string s39, .int .i64 p] w11 fun e w12 => ∃ b42 : Bool, e = .returned (.bool b42) ∧
        Br (!b42) (stA Tryz.prog 25 (⟨w2.heap.size, 0, none⟩ : Addr) #[.int .i64 0, .int .i64 0, .string (⟨#[]⟩ : ByteArray)] w12 fun w13 => ∃ nR0_0 : Int, w13.cell? ((⟨w2.heap.size, 0, none⟩ : Addr).add 0) = some (.int .i64 nR0_0) ∧ ∃ nR0_1 : Int, w13.cell? ((⟨w2.heap.size, 0, none⟩ : Addr).add 1) = some (.int .i64 nR0_1) ∧ ∃ sR0_2 : ByteArray, w13.cell? ((⟨w2.heap.size, 0, none⟩ : Addr).add 2) = some (.string sR0_2) ∧
            (Ending.returned (.tuple #[.agg #[.int .i64 nR0_0, .int .i64 nR0_1, .string sR0_2], .int .i64 10]) = .returned (.tuple #[valA (fitted f p v).1, .int .i64 (fitted f p v).2]) ∧ Pu w w13)) (
          Calls Tryz.prog 46 #[.string s39] w12 fun e w15 => ∃ n46_0 : Int, ∃ n46_1 : Int, ∃ s46_2 : ByteArray, e = .returned (.agg #[.int .i64 n46_0, .int .i64 n46_1, .string s46_2]) ∧
          stA Tryz.prog 25 (⟨w2.heap.size, 0, none⟩ : Addr) #[.int .i64 n46_0, .int .i64 n46_1, .string s46_2] w15 fun w16 => ∃ nR0_0 : Int, w16.cell? ((⟨w2.heap.size, 0, none⟩ : Addr).add 0) = some (.int .i64 nR0_0) ∧ ∃ nR0_1 : Int, w16.cell? ((⟨w2.heap.size, 0, none⟩ : Addr).add 1) = some (.int .i64 nR0_1) ∧ ∃ sR0_2 : ByteArray, w16.cell? ((⟨w2.heap.size, 0, none⟩ : Addr).add 2) = some (.string sR0_2) ∧
            (Ending.returned (.tuple #[.agg #[.int .i64 nR0_0, .int .i64 nR0_1, .string sR0_2], .int .i64 0]) = .returned (.tuple #[valA (fitted f p v).1, .int .i64 (fitted f p v).2]) ∧ Pu w w16))) (
        ∃ s47_0 : ByteArray, w3.cell? ((⟨w.heap.size, 0, none⟩ : Addr).add 0) = some (.string s47_0) ∧ ∃ n47_1 : Int, w3.cell? ((⟨w.heap.size, 0, none⟩ : Addr).add 1) = some (.int .i64 n47_1) ∧ ∃ n47_2 : Int, w3.cell? ((⟨w.heap.size, 0, none⟩ : Addr).add 2) = some (.int .i64 n47_2) ∧ ∃ b47_3 : Bool, w3.cell? ((⟨w.heap.size, 0, none⟩ : Addr).add 3) = some (.bool b47_3) ∧
        ∃ n49_0 : Int, w3.cell? ((⟨w1.heap.size, 0, none⟩ : Addr).add 0) = some (.int .i64 n49_0) ∧ ∃ n49_1 : Int, w3.cell? ((⟨w1.heap.size, 0, none⟩ : Addr).add 1) = some (.int .i64 n49_1) ∧ ∃ s49_2 : ByteArray, w3.cell? ((⟨w1.heap.size, 0, none⟩ : Addr).add 2) = some (.string s49_2) ∧
        Calls Tryz.prog 105 #[.agg #[.string s47_0, .int .i64 n47_1, .int .i64 n47_2, .bool b47_3], .int .i64 p, .agg #[.int .i64 n49_0, .int .i64 n49_1, .string s49_2]] w3 fun e w18 => ∃ b50 : Bool, e = .returned (.bool b50) ∧
        Br (!b50) (stA Tryz.prog 25 (⟨w2.heap.size, 0, none⟩ : Addr) #[.int .i64 0, .int .i64 0, .string (⟨#[]⟩ : ByteArray)] w18 fun w13 => ∃ nR0_0 : Int, w13.cell? ((⟨w2.heap.size, 0, none⟩ : Addr).add 0) = some (.int .i64 nR0_0) ∧ ∃ nR0_1 : Int, w13.cell? ((⟨w2.heap.size, 0, none⟩ : Addr).add 1) = some (.int .i64 nR0_1) ∧ ∃ sR0_2 : ByteArray, w13.cell? ((⟨w2.heap.size, 0, none⟩ : Addr).add 2) = some (.string sR0_2) ∧
            (Ending.returned (.tuple #[.agg #[.int .i64 nR0_0, .int .i64 nR0_1, .string sR0_2], .int .i64 10]) = .returned (.tuple #[valA (fitted f p v).1, .int .i64 (fitted f p v).2]) ∧ Pu w w13)) (
          ∃ n53_0 : Int, w18.cell? ((⟨w1.heap.size, 0, none⟩ : Addr).add 0) = some (.int .i64 n53_0) ∧ ∃ n53_1 : Int, w18.cell? ((⟨w1.heap.size, 0, none⟩ : Addr).add 1) = some (.int .i64 n53_1) ∧ ∃ s53_2 : ByteArray, w18.cell? ((⟨w1.heap.size, 0, none⟩ : Addr).add 2) = some (.string s53_2) ∧
          stA Tryz.prog 25 (⟨w2.heap.size, 0, none⟩ : Addr) #[.int .i64 n53_0, .int .i64 n53_1, .string s53_2] w18 fun w16 => ∃ nR0_0 : Int, w16.cell? ((⟨w2.heap.size, 0, none⟩ : Addr).add 0) = some (.int .i64 nR0_0) ∧ ∃ nR0_1 : Int, w16.cell? ((⟨w2.heap.size, 0, none⟩ : Addr).add 1) = some (.int .i64 nR0_1) ∧ ∃ sR0_2 : ByteArray, w16.cell? ((⟨w2.heap.size, 0, none⟩ : Addr).add 2) = some (.string sR0_2) ∧
            (Ending.returned (.tuple #[.agg #[.int .i64 nR0_0, .int .i64 nR0_1, .string sR0_2], .int .i64 0]) = .returned (.tuple #[valA (fitted f p v).1, .int .i64 (fitted f p v).2]) ∧ Pu w w16))) := by
    rintro hk m rfl
    have hF : fitted f p v = if f.kind = 4 then (if textB (bare (v.s.data.toList.take f.width.toNat)) p then (⟨4, 0, bs (bare (v.s.data.toList.take f.width.toNat))⟩, 0) else (noV, 10)) else if fitsV f p v then (v, 0) else (noV, 10) := by
      unfold fitted; rw [if_neg d0, if_neg (by rw [hk]; simp)]
    refine Br.of (fun d2 => ?_) (fun d2 => ?_)
    · have d2 := btrue d2
      obtain ⟨wl, wh⟩ := fld_text hfB d2
      rw [if_pos d2] at hF
      refine ⟨_, cl q2 2, _, cl q2 2, _, cl q1 2, _, w3, min_run _ _ _ _ _ _, by omega, by omega, by omega, (rBare_c _ (by have := extract_list v.s 0 (min (v.s.size : Int) f.width).toNat; have := size_list (v.s.extract 0 (min (v.s.size : Int) f.width).toNat); simp at *; omega) w3).mono ?_⟩
      rintro e w9 ⟨rfl, hp9⟩
      have et : (v.s.extract 0 (min (v.s.size : Int) f.width).toNat).data.toList = v.s.data.toList.take f.width.toNat := by
        rw [extract_list, List.drop_zero]; exact take_min _ _ _ (by simp) (by omega)
      rw [et]
      have hbl : (bs (bare (v.s.data.toList.take f.width.toNat))).size ≤ 140737488355328 := by
        rw [bs_size]; have := bare_le (v.s.data.toList.take f.width.toNat); have := List.length_take_le' f.width.toNat v.s.data.toList; rw [size_list] at this; omega
      generalize hg : bare (v.s.data.toList.take f.width.toNat) = B at *
      refine ⟨_, rfl, (rWritten_c _ hbl p w9).mono ?_⟩
      rintro e w10 ⟨rfl, hp10⟩
      rw [bs_list]
      have hp310 := hp9.trans hp10
      refine ⟨_, rfl, Br.of (fun d3 => out noV 10 (hp03.trans hp310) (b3 hp310) rfl ?_) (fun d3 => (rText_c (bs B) w10).mono ?_)⟩
      · rw [hF, show textB B p = false by simpa using d3]; rfl
      · rintro e w11 ⟨rfl, hp11⟩
        refine ⟨_, _, _, rfl, out ⟨4, 0, bs B⟩ 0 (hp03.trans (hp310.trans hp11)) (b3 (hp310.trans hp11)) rfl ?_⟩
        rw [hF, show textB B p = true by simpa using d3]; rfl
    · have d2 := bfalse d2
      rw [if_neg d2] at hF
      refine ⟨_, cl q1 0, _, cl q1 1, _, cl q1 2, _, cl q1 3, _, cl q2 0, _, cl q2 1, _, cl q2 2, (rFits_c f p v w3).mono ?_⟩
      rintro e w9 ⟨rfl, hp9⟩
      refine ⟨_, rfl, Br.of (fun d3 => out noV 10 (hp03.trans hp9) (b3 hp9) rfl ?_) (fun d3 => ⟨_, cl (b2 hp9) 0, _, cl (b2 hp9) 1, _, cl (b2 hp9) 2, out v 0 (hp03.trans hp9) (b3 hp9) rfl ?_⟩)⟩
      · rw [hF, show fitsV f p v = false by simpa using d3]; rfl
      · rw [hF, show fitsV f p v = true by simpa using d3]; rfl
  have six : v.kind ≠ (emptyV f).kind → fitted f p v = (noV, 6) := fun h => by unfold fitted; rw [if_neg d0, if_pos h]
  refine Br.of (fun d1 => ⟨_, cl0 q2, Br.of (fun d2 => out noV 6 hp03 q3 rfl (six ?_)) (fun d2 => ⟨_, cl q1 1, rest ?_ _ rfl⟩)⟩) (fun d1 => ⟨_, cl0 q2, Br.of (fun d2 => out noV 6 hp03 q3 rfl (six ?_)) (fun d2 => ⟨_, cl q1 1, rest ?_ _ rfl⟩)⟩)
  · unfold emptyV; rw [if_pos (btrue d1)]; exact bntrue d2
  · unfold emptyV; rw [if_pos (btrue d1)]; exact bnfalse d2
  · unfold emptyV; rw [if_neg (bfalse d1)]; exact bntrue d2
  · unfold emptyV; rw [if_neg (bfalse d1)]; exact bnfalse d2
theorem rFit_c (f : Fld) (p : Int) (v : Val) (w : World) : Calls Tryz.prog 14 #[fldA f, .int .i64 p, valA v] w fun e w' =>
    e = .returned (.tuple #[valA (fitS f p v).1, .int .i64 (fitS f p v).2]) ∧ Pu w w' := by
  refine F14_calls _ _ _ _ _ _ _ _ w _ ?_
  refine alB fun w1 hp1 hb1 => alB fun w2 hp2 hb2 => alB fun w3 hp3 hb3 => ?_
  have z1 : w1.heap.size ≤ w2.heap.size := hp2.size
  have z0 : w.heap.size ≤ w1.heap.size := hp1.size
  have hp03 : Pu w w3 := (hp1.trans hp2).trans hp3
  have out : ∀ {wz : World} (v' : Val) (k : Int) {c : Array Value}, Pu w wz → wz.heap[w2.heap.size]? = some (.cells c 25) → c.size = 3 → fitS f p v = (v', k) →
      stA Tryz.prog 25 (⟨w2.heap.size, 0, none⟩ : Addr) #[.int .i64 v'.kind, .int .i64 v'.n, .string v'.s] wz fun w' => ∃ n0 : Int, w'.cell? ((⟨w2.heap.size, 0, none⟩ : Addr).add 0) = some (.int .i64 n0) ∧ ∃ n1 : Int, w'.cell? ((⟨w2.heap.size, 0, none⟩ : Addr).add 1) = some (.int .i64 n1) ∧
        ∃ s2 : ByteArray, w'.cell? ((⟨w2.heap.size, 0, none⟩ : Addr).add 2) = some (.string s2) ∧ (Ending.returned (.tuple #[.agg #[.int .i64 n0, .int .i64 n1, .string s2], .int .i64 k]) = .returned (.tuple #[valA (fitS f p v).1, .int .i64 (fitS f p v).2]) ∧ Pu w w') := fun {wz} v' k {c} h1 h2 h3 h4 =>
    retV (R := fun e w' => e = .returned (.tuple #[valA (fitS f p v).1, .int .i64 (fitS f p v).2]) ∧ Pu w w') v' k h2 h3 fun w' hf => ⟨by rw [h4], h1.andNew hf fun i hi => by have hi : i = w2.heap.size := hi; omega⟩
  have b1 : ∀ {wz}, Pu w3 wz → wz.heap[w.heap.size]? = some (.cells #[.string f.name, .int .i64 f.kind, .int .i64 f.width, .bool f.null] 23) := fun h => h.blk (hp3.blk (hp2.blk hb1))
  have b2 : ∀ {wz}, Pu w3 wz → wz.heap[w1.heap.size]? = some (.cells #[.int .i64 v.kind, .int .i64 v.n, .string v.s] 25) := fun h => h.blk (hp3.blk hb2)
  have b3 : ∀ {wz}, Pu w3 wz → wz.heap[w2.heap.size]? = some (.cells #[.int .i64 0, .int .i64 0, .string ⟨#[]⟩] 25) := fun h => h.blk hb3
  have q0 := b1 (Pu.refl w3)
  refine ⟨_, cl q0 0, _, cl q0 1, _, cl q0 2, _, cl q0 3, (rIsField_c f w3).mono ?_⟩
  rintro e w4 ⟨rfl, hp4⟩
  refine ⟨_, rfl, Br.of (fun d => out noV 1 (hp03.trans hp4) (b3 hp4) rfl (fitS_wrong (by simp at d; simp [d]))) (fun d => (rIsPage_c p w4).mono ?_)⟩
  have hfB : fieldB f = true := by simpa using d
  rintro e w5 ⟨rfl, hp5⟩
  have hp35 := hp4.trans hp5
  refine ⟨_, rfl, Br.of (fun d => out noV 1 (hp03.trans hp35) (b3 hp35) rfl (fitS_wrong (by simp at d; simp [d]))) (fun d => ?_)⟩
  have hpB : pageB p = true := by simpa using d
  have hB : (fieldB f && pageB p) = true := by rw [hfB, hpB]; rfl
  refine ⟨_, cl (b2 hp35) 0, _, cl (b2 hp35) 1, _, cl (b2 hp35) 2, (rValid_c v w5).mono ?_⟩
  rintro e w6 ⟨rfl, hp6⟩
  have hp36 := hp35.trans hp6
  refine ⟨_, rfl, Br.of (fun d => out noV (validV v) (hp03.trans hp36) (b3 hp36) rfl (fitS_invalid hB (bntrue d))) (fun d => ?_)⟩
  have hv := bnfalse d
  refine ⟨_, cl (b1 hp36) 0, _, cl (b1 hp36) 1, _, cl (b1 hp36) 2, _, cl (b1 hp36) 3, _, cl (b2 hp36) 0, _, cl (b2 hp36) 1, _, cl (b2 hp36) 2, (rFitted_c f p v hfB (by have := (valid_ok hv).1; omega) w6).mono ?_⟩
  rintro e w7 ⟨rfl, hp7⟩
  exact ⟨_, _, _, _, rfl, out _ _ (hp03.trans (hp36.trans hp7)) (b3 (hp36.trans hp7)) rfl (fitS_fitted hB hv)⟩
end Go.Proofs.YtecmfdfhpldmmaaGreatDoor
