import Derived.Test.YtjbfehippchniaaGreatDoorPrOwA
import Derived.Test.YtjbfehippchniaaGreatDoorPrPrA
import Derived.Test.YtjbfehippchniaaGreatDoorShTwentySeven
import Derived.Test.YtjbfehippchniaaGreatDoorPxNext
import Derived.Test.YtjbfehippchniaaGreatDoorShTwentyFour
import Derived.RangeFuncBox
import Derived.RangeFuncCalls
import Derived.Shelf.Abstract
import Derived.WalkKit
import Derived.OwnWalkIn
import Derived.TacticsInMore
import Derived.LoopNIn
import Derived.LoopIn
import Derived.Maps.AppendAt
import Derived.Test.YtjbfehippchniaaGreatDoorShNineteen
/- Lex: texts in quotes, dates and signs, as the scanner takes them. The signs: what the library's tables of letters and of bytes lay. -/
set_option maxRecDepth 100000
set_option linter.unusedVariables false
set_option linter.unusedSimpArgs false
namespace Go.Proofs.YtjbfehippchniaaGreatDoor
open Go.Sh Go.Sh.Lx Go.RowKit
variable {w0 w w' : World} {b p : Nat} {d : List UInt8} {l g : Bool} {bad : Int}
theorem short_c (h : Sc w0 w b d p l g bad) (t : Tok) (m : Nat) : Calls Tryz.prog 189 #[.pointer (some ⟨b, 0, none⟩), .agg (tokV t).toArray, .int .i64 (m : Int)] w fun e w' => Fr (· = b) w w' /\
    if m < t.text.size then e = .returned (.bool false) /\ Sc w0 w' b d p l g t.at_ else e = .returned (.bool true) /\ Sc w0 w' b d p l g bad := by
  refine calls_by (F189_calls _ _ _ _ _ w) fun R hR => alB fun w1 hp1 hb1 => ?_
  have h1 := h.pu hp1
  refine ⟨_, cl hb1 2, Br.of (fun q => ?_) (fun q => ?_)⟩
  · have q := dtrue q
    refine ⟨_, cl hb1 1, h1.st_bd fun w2 h2 hf2 => hR _ _ ⟨pfr hp1 hf2, ?_⟩⟩
    rw [if_pos (by omega)]; exact ⟨rfl, h2⟩
  · have q := dfalse q
    refine hR _ _ ⟨Fr.pu hp1, ?_⟩
    rw [if_neg (by omega)]; exact ⟨rfl, h1⟩
theorem quote_tw (q : UInt8) : ∀ r : List UInt8, ((lineOf r).takeWhile fun b => !decide (b = q)) = r.takeWhile fun b => !nlB b && !decide (b = q)
  | [] => rfl
  | x :: r => by
    have ih := quote_tw q r
    unfold lineOf at ih ⊢
    by_cases h : nlB x = true
    · simp [List.takeWhile_cons, h]
    · have h : nlB x = false := by simpa using h
      simp only [List.takeWhile_cons, h, Bool.not_false, if_true, Bool.true_and]
      by_cases e : x = q
      · simp [e]
      · simp only [e, decide_false, Bool.not_false, if_true]
        congr 1
theorem quote_at {q : UInt8} (hq : nlB q = false) : ∀ r : List UInt8, (r.takeWhile fun b => !nlB b && !decide (b = q)).length < (lineOf r).length ↔ r[(r.takeWhile fun b => !nlB b && !decide (b = q)).length]? = some q
  | [] => by simp [lineOf]
  | x :: r => by
    have ih := quote_at hq r
    unfold lineOf at ih ⊢
    by_cases h : nlB x = true
    · simp only [List.takeWhile_cons, h, Bool.not_true, if_false, Bool.false_and, List.length_nil, Bool.false_eq_true]
      constructor
      · intro h9; omega
      · intro h9; simp at h9; subst h9; rw [hq] at h; cases h
    · have h : nlB x = false := by simpa using h
      simp only [List.takeWhile_cons, h, Bool.not_false, if_true, Bool.true_and]
      by_cases e : x = q
      · simp [e]
      · simp only [e, decide_false, Bool.not_false, if_true, List.length_cons, List.getElem?_cons_succ, Nat.add_lt_add_iff_right]
        exact ih
theorem text_c {q : UInt8} {r : List UInt8} (h : Sc w0 w b d p l g bad) (hd : d.drop p = q :: r) (hq : nlB q = false) (t0 : Tok) : Calls Tryz.prog 190 #[.pointer (some ⟨b, 0, none⟩), .agg (tokV t0).toArray] w fun e w' => Fr (· = b) w w' /\ match quoteS q r with
    | .tok k t m => e = retE ⟨k, t0.at_, bs t⟩ true /\ Sc w0 w' b d (p + 1 + m) l g bad
    | .bad i => (∃ t, e = retE t false) /\ Sc w0 w' b d p l g ((p + i : Nat) : Int)
    | _ => False := by
  have hlim := h.lim
  have hbl := blk_lt h.blk
  have hnew := h.new
  have hdl : (d.drop p).length = r.length + 1 := by rw [hd]; rfl
  rw [List.length_drop] at hdl
  have hr : d.drop (p + 1) = r := by rw [← List.drop_drop, hd]; rfl
  have hgq : d[p]? = some q := by have := congrArg (·[0]?) hd; simpa [get_drop] using this
  have hln : lnN (d.drop p) = lnN r + 1 := by rw [hd]; unfold lnN lineOf; rw [List.takeWhile_cons, hq]; rfl
  have hlr := lnN_le r
  obtain ⟨t, ht⟩ : ∃ t, t = r.takeWhile fun b => !nlB b && !decide (b = q) := ⟨_, rfl⟩
  have htl : t.length <= r.length := by rw [ht]; exact tw_le _ r
  have htt : r.take t.length = t := by rw [ht]; exact tw_take _ r
  have hqs : quoteS q r = if r[t.length]? = some q then (match badAt t with
    | some i => .bad (i + 1)
    | none => .tok 2 t (t.length + 1)) else .bad 0 := by rw [ht]; rfl
  rw [hqs]
  refine calls_by (F190_calls _ _ _ _ w) fun R hR => alB fun w1 hp1 hb1 => alB fun w2 hp2 hb2 => ?_
  have hr1 := blk_lt hb1
  have hs1 := hp1.size
  have hs2 := hp2.size
  have hb1 := hp2.blk hb1
  have h2 := h.pu (hp1.trans hp2)
  refine ⟨_, h2.at_, (lineEnd_c h2 h2.le).mono ?_⟩
  rintro e w3 ⟨rfl, rfl⟩
  refine ⟨_, rfl, dwE_intro fun w4 hp4 _ => ?_⟩
  have h4 := h2.pu hp4
  have hb1 := hp4.blk hb1
  have hb2 := hp4.blk hb2
  have hs4 := hp4.size
  have e1 : ((p : Int) + 1).toNat = p + 1 := by omega
  have hP4 : Pu w w4 := (hp1.trans hp2).trans hp4
  -- a token handed back out of the second block
  have out : ∀ {w5 w6 : World} {t5 t6 : Tok} {k : Bool} {p' : Nat} {bad' : Int}, Sc w0 w5 b d p' l g bad' -> Fr (· = b) w w5 -> TokB w5 w1.heap.size t6 -> (∀ w', Sc w0 w' b d p' l g bad' -> Fr (· = b) w w' -> R (retE t5 k) w') ->
      stA Tryz.prog 30 (⟨w1.heap.size, 0, none⟩ : Addr) #[.int .i64 t5.kind, .int .i64 t5.at_, .string t5.text] w5 fun w' => ∃ n0 : Int, w'.cell? ((⟨w1.heap.size, 0, none⟩ : Addr).add 0) = some (.int .i64 n0) /\ ∃ n1 : Int, w'.cell? ((⟨w1.heap.size, 0, none⟩ : Addr).add 1) = some (.int .i64 n1) /\
      ∃ s2 : ByteArray, w'.cell? ((⟨w1.heap.size, 0, none⟩ : Addr).add 2) = some (.string s2) /\ R (.returned (.tuple #[.agg #[.int .i64 n0, .int .i64 n1, .string s2], .bool k])) w' := fun {w5 w6 t5 t6 k p' bad'} h5 hf5 hb5 hk =>
    outT hb5 fun w8 hf8 => hk w8 (h5.fr hf8 (by omega) (fun i hi => by rw [show i = _ from hi]; have := h.since.size; omega)) (hf5.trans hf8 fun i hi hlt => by rw [show i = _ from hi] at hlt; omega)
  refine ⟨_, h4.s, _, h4.at_, ?_⟩
  rw [wrap_in (n := (p : Int) + 1) (by omega) (by omega), hln]
  refine ⟨by omega, by rw [bs_size, toNat_i]; omega, by omega, by rw [toNat_i]; omega, _, h4.s, _, h4.at_, q, by omega, by rw [toNat_i]; exact bs_get hgq, ?_⟩
  have hsub : (bs d).extract ((p : Int) + 1).toNat (((p + (lnN r + 1) : Nat) : Int)).toNat = bs (lineOf r) := by
    rw [e1, toNat_i, extract_take]
    congr 1
    rw [show p + (lnN r + 1) = (p + 1) + lnN r by omega, List.take_add, List.drop_append, List.drop_eq_nil_of_le (by rw [List.length_take]; omega), List.nil_append, List.length_take, Nat.min_eq_left (by omega), Nat.sub_self, List.drop_zero, hr]
    exact tw_take _ r
  rw [hsub]
  refine (indexByte_c (lineOf r) _ w4).mono ?_
  rintro e w5 ⟨rfl, rfl⟩
  have hq8 : (((q.toNat : Nat) : Int)).toNat.toUInt8 = q := by rw [toNat_i]; simp [Nat.toUInt8]
  rw [hq8, indexByte_tw, quote_tw, ← ht]
  have hiff : t.length < (lineOf r).length ↔ r[t.length]? = some q := by rw [ht]; exact quote_at hq r
  refine ⟨_, rfl, ?_⟩
  by_cases hin : r[t.length]? = some q
  · have hlt := hiff.2 hin
    rw [if_pos hlt, if_pos hin] at *
    have htr : t.length < r.length := (List.getElem?_eq_some_iff.1 hin).1
    refine Br.f (decide_eq_false (by omega)) (dwE_intro fun w6 hp6 _ => ?_)
    have h6 := h4.pu hp6
    have hb1 := hp6.blk hb1
    have hb2 := hp6.blk hb2
    have hs6 := hp6.size
    have hP6 := hP4.trans hp6
    refine ⟨fun w' => Sc w0 w' b d p l g bad, h6, _, fun w' h' => h'.s, _, fun w' h' => h'.at_, _, fun w' h' => h'.at_, ?_⟩
    rw [wrap_in (n := (p : Int) + 1) (by omega) (by omega), wrap_in (n := (p : Int) + 1 + (t.length : Int)) (by omega) (by omega)]
    have e2 : ((p : Int) + 1 + (t.length : Int)).toNat = p + 1 + t.length := by omega
    rw [e1, e2]
    refine ⟨by omega, by rw [bs_size]; omega, by omega, by omega, ?_⟩
    have hsub2 : (bs d).extract (p + 1) (p + 1 + t.length) = bs t := by
      rw [extract_take]
      congr 1
      rw [List.take_add, List.drop_append, List.drop_eq_nil_of_le (by rw [List.length_take]; omega), List.nil_append, List.length_take, Nat.min_eq_left (by omega), Nat.sub_self, List.drop_zero, hr]
      exact htt
    rw [hsub2]
    refine st1_intro hb1 (by simp) fun w7 hw7 hb7 => ?_
    have hf7 : Fr (· = w.heap.size) w6 w7 := by rw [hw7]; exact Fr.setCell w6 ⟨w.heap.size, 0, none⟩ _
    have h7 := h6.fr hf7 (by omega) (fun i hi => by rw [show i = _ from hi]; have := h.since.size; omega)
    refine ⟨h7, ?_⟩
    rw [add_def]
    refine st1_intro hb7 (by simp) fun w8 hw8 hb8 => ?_
    have hf8 : Fr (· = w.heap.size) w7 w8 := by rw [hw8]; exact Fr.setCell w7 ⟨w.heap.size, 0 + 2, none⟩ _
    have h8 := h7.fr hf8 (by omega) (fun i hi => by rw [show i = _ from hi]; have := h.since.size; omega)
    have hb8 : TokB w8 w.heap.size ⟨2, t0.at_, bs t⟩ := hb8
    have hb2 := hf8.blk (hf7.blk hb2 (by omega)) (by omega)
    have hP8 : Pu w w8 := Pu.andNew (Pu.andNew hP6 hf7 (fun i hi => by rw [show i = _ from hi]; omega)) hf8 (fun i hi => by rw [show i = _ from hi]; omega)
    have hz8 : w6.heap.size <= w8.heap.size := Nat.le_trans hf7.size hf8.size
    refine ⟨_, cl hb8 2, ?_⟩
    refine loopUp t.length (fun k s w' => s = (k : Int) /\ Sc w0 w' b d p l g bad /\ TokB w' w.heap.size ⟨2, t0.at_, bs t⟩ /\ TokB w' w1.heap.size zeroT /\ Pu w w' /\ ∀ j, j < k -> ∀ y, t[j]? = some y -> isB y = true) ⟨rfl, h8, hb8, hb2, hP8, fun j hj => by omega⟩ ?_
    rintro k J s w9 hk ⟨rfl, h9, hb9, hc9, hP9, hall⟩ hJ
    refine Br.of (fun q1 => ?_) (fun q1 => ?_)
    · have q1 := dtrue q1
      rw [bs_size_i] at q1
      have hk2 : k < t.length := by omega
      obtain ⟨y, hy⟩ := at_k hk2
      refine dwE_intro fun w10 hp10 _ => ?_
      have h10 := h9.pu hp10
      have hb10 := hp10.blk hb9
      have hc10 := hp10.blk hc9
      have hylt := y.toNat_lt
      refine ⟨_, cl hb10 2, y, by omega, by rw [toNat_i]; exact bs_get hy, by omega, by omega, _, h10.cls y, ?_⟩
      have e4 : (((clsN y.toNat : Nat) : Int) == 4) = !isB y := by rw [beq_dec, ← (cls_b y).2.2.2]; exact dec_eq (by omega)
      rw [e4]
      refine Br.of (fun q2 => ?_) (fun q2 => ?_)
      · have hy2 : isB y = false := by simpa using q2
        rw [badAt_of hy hy2 hall] at hR
        refine ⟨_, h10.at_, ?_⟩
        rw [wrap_in (n := (p : Int) + 1) (by omega) (by omega), wrap_in (by omega) (by omega)]
        refine h10.st_bd fun w11 h11 hf11 => ?_
        have hb11 := hf11.blk hb10 (by omega)
        have hc11 := hf11.blk hc10 (by omega)
        refine ⟨_, cl hb11 0, _, cl hb11 1, _, cl hb11 2, ?_⟩
        exact out (w6 := w11) (t5 := ⟨2, t0.at_, bs t⟩) h11 (pfr (hP9.trans hp10) hf11) hc11 fun w12 h12 hf12 => hR _ _ ⟨hf12, ⟨_, rfl⟩, by rw [show ((p + (k + 1) : Nat) : Int) = (p : Int) + 1 + (k : Int) by omega]; exact h12⟩
      · have hy2 : isB y = true := by simpa using q2
        rw [wrap_in (by omega) (by omega)]
        refine hJ _ _ hk2 ⟨by omega, h10, hb10, hc10, hP9.trans hp10, fun j hj z hz => ?_⟩
        by_cases e : j = k
        · subst e; rw [hy] at hz; cases hz; exact hy2
        · exact hall j (by omega) z hz
    · have q1 := dfalse q1
      rw [bs_size_i] at q1
      obtain rfl : k = t.length := by omega
      rw [badAt_none fun j y hy => hall j (List.getElem?_eq_some_iff.1 hy).1 y hy] at hR
      refine ⟨_, h9.at_, ?_⟩
      rw [wrap_in (n := (t.length : Int) + 2) (by omega) (by omega), wrap_in (by omega) (by omega)]
      refine h9.st_at (p' := p + 1 + (t.length + 1)) (by omega) (by omega) fun w10 h10 hf10 => ?_
      have hb10 := hf10.blk hb9 (by omega)
      have hc10 := hf10.blk hc9 (by omega)
      refine ⟨_, cl hb10 0, _, cl hb10 1, _, cl hb10 2, ?_⟩
      exact out (w6 := w10) (t5 := ⟨2, t0.at_, bs t⟩) h10 (pfr hP9 hf10) hc10 fun w12 h12 hf12 => hR _ _ ⟨hf12, rfl, h12⟩
  · have hlt : ¬ t.length < (lineOf r).length := fun h9 => hin (hiff.1 h9)
    rw [if_neg hlt, if_neg hin] at *
    refine Br.t (decide_eq_true (by omega)) ⟨_, h4.at_, h4.st_bd fun w6 h6 hf6 => ?_⟩
    have hb1 := hf6.blk hb1 (by omega)
    have hb2 := hf6.blk hb2 (by omega)
    refine ⟨_, cl hb1 0, _, cl hb1 1, _, cl hb1 2, ?_⟩
    exact out (w6 := w6) (t5 := t0) h6 (pfr hP4 hf6) (show TokB w6 w1.heap.size zeroT from hb2) fun w12 h12 hf12 => hR _ _ ⟨hf12, ⟨_, rfl⟩, by rw [Nat.add_zero]; exact h12⟩
end Go.Proofs.YtjbfehippchniaaGreatDoor

/- Lex: dates and signs, as the scanner takes them. The signs: what the library's tables of letters and of bytes lay. -/
set_option maxRecDepth 100000
set_option linter.unusedVariables false
set_option linter.unusedSimpArgs false
namespace Go.Proofs.YtjbfehippchniaaGreatDoor
open Go.Sh Go.Sh.Lx Go.RowKit
variable {w0 w w' : World} {b p : Nat} {d : List UInt8} {l g : Bool} {bad : Int}
theorem datesD_ext (l : List UInt8) (h : 13 <= l.length) : ((((bs l).extract ((2 : Int).toNat) ((6 : Int).toNat)) ++ ((bs l).extract ((7 : Int).toNat) ((9 : Int).toNat))) ++ ((bs l).extract ((10 : Int).toNat) ((12 : Int).toNat))) = bs (datesD l) /\ (datesD l).length = 8 := by
  have e1 : (2 : Int).toNat = 2 := rfl
  have e2 : (6 : Int).toNat = 6 := rfl
  have e3 : (7 : Int).toNat = 7 := rfl
  have e4 : (9 : Int).toNat = 9 := rfl
  have e5 : (10 : Int).toNat = 10 := rfl
  have e6 : (12 : Int).toNat = 12 := rfl
  rw [e1, e2, e3, e4, e5, e6, extract_take, extract_take, extract_take, bs_append, bs_append]
  unfold datesD
  rw [List.drop_take, List.drop_take, List.drop_take]
  refine ⟨rfl, ?_⟩
  simp only [List.length_append, List.length_take, List.length_drop]
  omega
theorem take2_ext (l : List UInt8) : ((bs l).extract 0 ((2 : Int).toNat)) = bs (l.take 2) := by
  have e1 : (2 : Int).toNat = 2 := rfl
  rw [e1, extract_take, List.drop_zero]
theorem byte45 (x : UInt8) (n : Nat) (hn : n < 256) : ((((x.toNat : Nat) : Int)) != (n : Int)) = !decide (x = UInt8.ofNat n) := by
  have : (((x.toNat : Nat) : Int) == (n : Int)) = decide (x = UInt8.ofNat n) := by
    rw [beq_dec]
    apply dec_eq
    constructor
    · intro h
      apply UInt8.toNat_inj.1
      simp; omega
    · intro h; rw [h]; simp; omega
  unfold bne; rw [this]
theorem date_c (h : Sc w0 w b d p l g bad) : Calls Tryz.prog 191 #[.pointer (some ⟨b, 0, none⟩)] w fun e w' => Pu w w' /\ ∃ s n k, e = .returned (.tuple #[.string s, .int .i64 n, .bool k]) /\ match dateL (d.drop p) with
    | some (x, m) => s = bs x /\ n = (m : Int) /\ k = true
    | none => k = false := by
  have hlim := h.lim
  have hle := h.le
  obtain ⟨L, hL⟩ : ∃ L, L = d.drop p := ⟨_, rfl⟩
  have hLl : L.length <= 4000 := by rw [hL, List.length_drop]; omega
  rw [← hL]
  refine calls_by (F191_calls _ w) fun R hR => dwE_intro fun w1 hp1 _ => ?_
  have h1 := h.pu hp1
  refine ⟨_, h1.s, _, h1.at_, Nat.le_refl _, by omega, by rw [bs_size, toNat_i]; exact hle, ?_⟩
  rw [toNat_i, extract_drop, ← hL]
  refine (hasPrefix_c L [123, 125] w1).mono ?_
  rintro e w2 ⟨rfl, rfl⟩
  refine ⟨_, rfl, Br.of (fun q => ?_) (fun q => ?_)⟩
  · have q : L.take 2 = [123, 125] := dtrue q
    refine hR _ _ ⟨hp1, _, _, _, rfl, ?_⟩
    unfold dateL; rw [if_pos q]; exact ⟨rfl, rfl, rfl⟩
  · have q : ¬ L.take 2 = [123, 125] := dfalse q
    have no : ∀ {w3 : World}, Pu w w3 -> (L.length < 13 ∨ L.take 2 ≠ [123, 94] ∨ L[6]? ≠ some 45 ∨ L[9]? ≠ some 45 ∨ L[12]? ≠ some 125) -> F191_1 R (bs L) true [] w3 := fun {w3} hp3 hn => by
      refine hR _ _ ⟨hp3, _, _, _, rfl, ?_⟩
      unfold dateL; rw [if_neg q, if_pos hn]
    refine Br.of (fun q1 => ?_) (fun q1 => ?_)
    · exact no hp1 (.inl (by have := dtrue q1; rw [bs_size_i] at this; omega))
    · have q1 : 13 <= L.length := by have := dfalse q1; rw [bs_size_i] at this; omega
      refine ⟨by omega, by rw [bs_size]; show 2 <= _; omega, by omega, ?_⟩
      have e123 : (⟨#[123, 94]⟩ : ByteArray) = bs [123, 94] := rfl
      rw [take2_ext, e123, bs_beq]
      refine Br.of (fun q2 => ?_) (fun q2 => ?_)
      · exact no hp1 (.inr (.inl (by simpa using q2)))
      · have q2 : L.take 2 = [123, 94] := by simpa using q2
        obtain ⟨x6, hx6⟩ := at_k (l := L) (k := 6) (by omega)
        obtain ⟨x9, hx9⟩ := at_k (l := L) (k := 9) (by omega)
        obtain ⟨x12, hx12⟩ := at_k (l := L) (k := 12) (by omega)
        have b6 := byte45 x6 45 (by omega)
        have b9 := byte45 x9 45 (by omega)
        have b12 := byte45 x12 125 (by omega)
        refine ⟨x6, by omega, bs_get hx6, ?_⟩
        rw [show (((x6.toNat : Nat) : Int) != 45) = _ from b6]
        refine Br.of (fun q3 => ?_) (fun q3 => ?_)
        · exact no hp1 (.inr (.inr (.inl (by rw [hx6]; simpa using q3))))
        · have q3 : x6 = 45 := by simpa using q3
          subst q3
          refine ⟨x9, by omega, bs_get hx9, ?_⟩
          rw [show (((x9.toNat : Nat) : Int) != 45) = _ from b9]
          refine Br.of (fun q4 => ?_) (fun q4 => ?_)
          · exact no hp1 (.inr (.inr (.inr (.inl (by rw [hx9]; simpa using q4)))))
          · have q4 : x9 = 45 := by simpa using q4
            subst q4
            refine ⟨x12, by omega, bs_get hx12, ?_⟩
            rw [show (((x12.toNat : Nat) : Int) != 125) = _ from b12]
            by_cases q5 : x12 = 125
            · subst q5
              show F191_1 R (bs L) (!decide ((125 : UInt8) = 125)) [] w2
              rw [decide_eq_true rfl]
              have hdl : dateL L = if (unstampS (datesD L)).2 = true /\ datesD L ≠ List.replicate 8 32 then some (datesD L, 13) else none := by
                unfold dateL; rw [if_neg q, if_neg]
                rw [hx6, hx9, hx12, q2]
                simp; omega
              obtain ⟨hx, hlen8⟩ := datesD_ext L q1
              refine Br.f rfl (dwE_intro fun w3 hp3 _ => ?_)
              have e6 : (6 : Int).toNat = 6 := rfl
              have e9 : (9 : Int).toNat = 9 := rfl
              have e12 : (12 : Int).toNat = 12 := rfl
              have hsz := bs_size L
              have hcat : (((bs L).extract ((2 : Int).toNat) ((6 : Int).toNat)).size + ((bs L).extract ((7 : Int).toNat) ((9 : Int).toNat)).size : Nat) <= 9223372036854775807 := by
                rw [ByteArray.size_extract, ByteArray.size_extract]; omega
              refine ⟨by omega, by omega, by omega, by decide, by omega, by omega, by omega, by decide, by omega, by omega, by omega, by omega, by decide, ?_, ?_⟩
              · have : ((bs L).extract ((2 : Int).toNat) ((6 : Int).toNat) ++ (bs L).extract ((7 : Int).toNat) ((9 : Int).toNat)).size = ((bs L).extract ((2 : Int).toNat) ((6 : Int).toNat)).size + ((bs L).extract ((7 : Int).toNat) ((9 : Int).toNat)).size := ByteArray.size_append
                rw [this, ByteArray.size_extract, ByteArray.size_extract, ByteArray.size_extract]; omega
              · rw [hx]
                refine (unstamp_c (bs (datesD L)) (by rw [bs_size]; omega) w3).mono ?_
                rintro e w4 ⟨rfl, hp4⟩
                rw [bs_list]
                have hP4 := (hp1.trans hp3).trans hp4
                refine ⟨_, _, rfl, Br.of (fun q6 => ?_) (fun q6 => ?_)⟩
                · have e8 : (⟨#[32, 32, 32, 32, 32, 32, 32, 32]⟩ : ByteArray) = bs (List.replicate 8 32) := rfl
                  rw [e8, bs_beq]
                  refine hR _ _ ⟨hP4, _, _, _, rfl, ?_⟩
                  rw [hdl]
                  by_cases q7 : datesD L = List.replicate 8 32
                  · rw [if_neg (by simp [q7]), decide_eq_true q7]; rfl
                  · rw [if_pos ⟨q6, q7⟩, decide_eq_false q7]; exact ⟨rfl, rfl, rfl⟩
                · refine hR _ _ ⟨hP4, _, _, _, rfl, ?_⟩
                  rw [hdl, if_neg (by rw [q6]; simp)]
            · show F191_1 R (bs L) (!decide (x12 = 125)) [] w2
              rw [decide_eq_false q5]
              exact no hp1 (.inr (.inr (.inr (.inr (by rw [hx12]; simpa using q5)))))
structure Laid (w : World) : Prop where
  case : Lib.CaseVar 1 Lib.caseA w
  tabs : Lib.Utf8Tabs 2 3 w
theorem Laid.pu (h : Laid w) (hp : Pu w w') : Laid w' := ⟨Lib.CaseVar_below h.case hp, fun c hc => hp.cell (h.tabs.1 c hc), fun i hi => ⟨hp.cell (h.tabs.2 i hi).1, hp.cell (h.tabs.2 i hi).2⟩⟩
theorem upper_c (hL : Laid w) (l : List UInt8) (hl : l.length <= 4000) : Calls Tryz.prog 80 #[.string (bs l)] w fun e w' => e = .returned (.string (bs (Lib.toUpperD l))) /\ Pu w w' := by
  refine (Any.strings_ToUpper_any Tryz.lays158 Tryz.Builder_Extra_158 (bs l) w (by rw [bs_size]; omega) hL.case hL.tabs).mono ?_
  rintro e w' ⟨rfl, hp⟩
  rw [bs_list]
  exact ⟨rfl, hp⟩
theorem signs_low : ∀ x ∈ signsS, ∀ y ∈ x, y.toNat < 128 := by decide
theorem signs_len : ∀ x ∈ signsS, 1 <= x.length /\ x.length <= 6 := by decide
theorem rd_strs {r : Nat} {e : TypeId} {l : List ByteArray} (hb : w.heap[r]? = some (.cells (l.map Value.string).toArray e)) (hl : l.length <= 140737488355328) : RdSl w ⟨some ⟨r, 0, none⟩, l.length, l.length⟩ l :=
  ⟨rfl, Nat.le_refl _, hl, fun i x hx => ⟨_, rfl, [.string x], rfl, fun j v hv => by
    have hj : j = 0 := by cases j with
      | zero => rfl
      | succ j => simp at hv
    subst hj
    simp at hv
    subst hv
    rw [add_def, add_def, cell_blk hb]
    show ((l.map Value.string).toArray)[0 + i * 1 + 0]? = _
    rw [show 0 + i * 1 + 0 = i by omega]
    simp [hx]⟩⟩
theorem signs_c (w : World) : Calls Tryz.prog 203 #[] w fun e w' => Pu w w' /\ ∃ s : SV, e = .returned (.slice s.a s.len s.cap) /\ RdSl w' s (signsS.map bs) := by
  refine calls_by (F203_calls w) fun R hR => alB fun w1 hp1 hb1 => hR _ _ ⟨hp1, ⟨some ⟨w.heap.size, 0, none⟩, 38, 38⟩, rfl, ?_⟩
  exact rd_strs (l := signsS.map bs) hb1 (by decide)
theorem sign_c (hL : Laid w0) (h : Sc w0 w b d p l g bad) (t0 : Tok) : Calls Tryz.prog 192 #[.pointer (some ⟨b, 0, none⟩), .agg (tokV t0).toArray] w fun e w' => Fr (· = b) w w' /\ match signS (d.drop p) with
    | some x => e = retE ⟨4, t0.at_, bs x⟩ true /\ Sc w0 w' b d (p + x.length) l g bad /\ p + x.length <= d.length
    | none => (∃ t, e = retE t false) /\ Sc w0 w' b d p l g (p : Int) := by
  have hlim := h.lim
  have hle := h.le
  have hbl := blk_lt h.blk
  have hnew := h.new
  have hsi := h.since.size
  refine calls_by (F192_calls _ _ _ _ w) fun R hR => alB fun w1 hp1 hb1 => alB fun w2 hp2 hb2 => ?_
  have hr1 := blk_lt hb1
  have hs1 := hp1.size
  have hs2 := hp2.size
  have hb1 := hp2.blk hb1
  refine st1_intro hb1 (by simp) fun w3 hw3 hb3 => ?_
  have hf3 : Fr (· = w.heap.size) w2 w3 := by rw [hw3]; exact Fr.setCell w2 ⟨w.heap.size, 0, none⟩ _
  have hb3 : TokB w3 w.heap.size ⟨4, t0.at_, t0.text⟩ := hb3
  have hb2 := hf3.blk hb2 (by omega)
  have hP3 : Pu w w3 := Pu.andNew (hp1.trans hp2) hf3 (fun i hi => by rw [show i = _ from hi]; omega)
  refine (signs_c w3).mono ?_
  rintro e w4 ⟨hp4, s, rfl, hs⟩
  have hb3 := hp4.blk hb3
  have hb2 := hp4.blk hb2
  have h4 := h.pu (hP3.trans hp4)
  refine ⟨s, rfl, ?_⟩
  have hsl : s.len = 38 := by rw [hs.len]; rfl
  -- a token handed back out of the second block
  have out : ∀ {w5 : World} {t5 t6 : Tok} {k : Bool} {p' : Nat} {bad' : Int}, Sc w0 w5 b d p' l g bad' -> Fr (· = b) w w5 -> TokB w5 w1.heap.size t6 -> (∀ w', Sc w0 w' b d p' l g bad' -> Fr (· = b) w w' -> R (retE t5 k) w') ->
      stA Tryz.prog 30 (⟨w1.heap.size, 0, none⟩ : Addr) #[.int .i64 t5.kind, .int .i64 t5.at_, .string t5.text] w5 fun w' => ∃ n0 : Int, w'.cell? ((⟨w1.heap.size, 0, none⟩ : Addr).add 0) = some (.int .i64 n0) /\ ∃ n1 : Int, w'.cell? ((⟨w1.heap.size, 0, none⟩ : Addr).add 1) = some (.int .i64 n1) /\
      ∃ s2 : ByteArray, w'.cell? ((⟨w1.heap.size, 0, none⟩ : Addr).add 2) = some (.string s2) /\ R (.returned (.tuple #[.agg #[.int .i64 n0, .int .i64 n1, .string s2], .bool k])) w' := fun {w5 t5 t6 k p' bad'} h5 hf5 hb5 hk =>
    outT hb5 fun w8 hf8 => hk w8 (h5.fr hf8 (by omega) (fun i hi => by rw [show i = _ from hi]; omega)) (hf5.trans hf8 fun i hi hlt => by rw [show i = _ from hi] at hlt; omega)
  rw [hsl]
  refine loopUp 38 (fun k t w' => t = (k : Int) /\ Pu w w' /\ RdSl w' s (signsS.map bs) /\ TokB w' w.heap.size ⟨4, t0.at_, t0.text⟩ /\ TokB w' w1.heap.size zeroT /\ signS (d.drop p) = (signsS.drop k).find? fun x => decide (((d.drop p).take x.length).map capU = x)) ⟨rfl, hP3.trans hp4, hs, hb3, hb2, rfl⟩ ?_
  rintro k J t w5 hk ⟨rfl, hP5, hs5, hb5, hc5, hfind⟩ hJ
  have h5 := h.pu hP5
  refine Br.of (fun q => ?_) (fun q => ?_)
  · have hk2 : k < 38 := by have := dtrue q; omega
    obtain ⟨x, hx⟩ := at_k (l := signsS) (k := k) hk2
    have hxm := List.mem_of_getElem? hx
    have hxl := signs_len x hxm
    obtain ⟨a, ha, _, hc⟩ := hs5.str (i := k) (x := bs x) (by rw [List.getElem?_map, hx]; rfl)
    rw [drop_at hx, List.find?_cons] at hfind
    refine ⟨a, ha, by omega, by omega, _, by rw [toNat_i]; exact hc, _, h5.at_, ?_⟩
    rw [bs_size_i, wrap_in (n := (p : Int) + (x.length : Int)) (by omega) (by omega), wrap_in (n := (k : Int) + 1) (by omega) (by omega)]
    refine dwE_intro fun w6 hp6 _ => ?_
    have h6 := h5.pu hp6
    have e1 : ((p : Int) + (x.length : Int)).toNat = p + x.length := by omega
    refine ⟨_, h6.s, Br.of (fun q1 => ?_) (fun q1 => ?_)⟩
    · have q1 := dtrue q1
      rw [bs_size_i] at q1
      refine ⟨_, h6.s, _, h6.at_, by omega, by rw [e1, bs_size]; omega, by omega, by rw [e1, toNat_i]; omega, ?_⟩
      rw [e1, toNat_i, extract_take]
      have hsub : (d.take (p + x.length)).drop p = (d.drop p).take x.length := by
        rw [List.take_add, List.drop_append, List.drop_eq_nil_of_le (by rw [List.length_take]; omega), List.nil_append, List.length_take, Nat.min_eq_left (by omega), Nat.sub_self, List.drop_zero]
      rw [hsub]
      have hlen : ((d.drop p).take x.length).length = x.length := by rw [List.length_take, List.length_drop]; omega
      refine (upper_c (hL.pu h6.since) _ (by omega)).mono ?_
      rintro e w7 ⟨rfl, hp7⟩
      have h7 := h6.pu hp7
      have hb7 := (hp6.trans hp7).blk hb5
      have hc7 := (hp6.trans hp7).blk hc5
      refine ⟨_, rfl, ?_⟩
      rw [bs_beq, show decide (Lib.toUpperD ((d.drop p).take x.length) = x) = decide (((d.drop p).take x.length).map capU = x) from dec_eq (upD_eq (signs_low x hxm) hlen)]
      refine Br.of (fun q2 => ?_) (fun q2 => ?_)
      · rw [q2] at hfind
        rw [ptrE_some, add_def]
        refine st1_intro hb7 (by simp) fun w8 hw8 hb8 => ?_
        have hf8 : Fr (· = w.heap.size) w7 w8 := by rw [hw8]; exact Fr.setCell w7 ⟨w.heap.size, 0 + 2, none⟩ _
        have hb8 : TokB w8 w.heap.size ⟨4, t0.at_, bs x⟩ := hb8
        have hc8 := hf8.blk hc7 (by omega)
        have h8 := h7.fr hf8 (by omega) (fun i hi => by rw [show i = _ from hi]; omega)
        have hP8 : Pu w w8 := Pu.andNew ((hP5.trans hp6).trans hp7) hf8 (fun i hi => by rw [show i = _ from hi]; omega)
        refine h8.st_at (p' := p + x.length) (by omega) (by omega) fun w9 h9 hf9 => ?_
        have hb9 := hf9.blk hb8 (by omega)
        have hc9 := hf9.blk hc8 (by omega)
        refine ⟨_, cl hb9 0, _, cl hb9 1, _, cl hb9 2, ?_⟩
        refine out (t5 := ⟨4, t0.at_, bs x⟩) h9 (pfr hP8 hf9) (show TokB w9 w1.heap.size zeroT from hc9) fun w10 h10 hf10 => hR _ _ ⟨hf10, ?_⟩
        rw [hfind]
        exact ⟨rfl, h10, by omega⟩
      · rw [q2] at hfind
        exact hJ _ _ hk2 ⟨by omega, (hP5.trans hp6).trans hp7, hs5.pu (hp6.trans hp7), hb7, hc7, hfind⟩
    · have q1 := dfalse q1
      rw [bs_size_i] at q1
      have hne : decide (((d.drop p).take x.length).map capU = x) = false := decide_eq_false fun e => by
        have := congrArg List.length e
        rw [List.length_map, List.length_take, List.length_drop] at this; omega
      rw [hne] at hfind
      exact hJ _ _ hk2 ⟨by omega, hP5.trans hp6, hs5.pu hp6, hp6.blk hb5, hp6.blk hc5, hfind⟩
  · have hk2 : k = 38 := by have := dfalse q; omega
    subst hk2
    have hfind : signS (d.drop p) = none := hfind
    rw [hfind] at hR
    refine ⟨_, h5.at_, h5.st_bd fun w6 h6 hf6 => ?_⟩
    have hb6 := hf6.blk hb5 (by omega)
    have hc6 := hf6.blk hc5 (by omega)
    refine ⟨_, cl hb6 0, _, cl hb6 1, _, cl hb6 2, ?_⟩
    exact out (t5 := ⟨4, t0.at_, t0.text⟩) h6 (pfr hP5 hf6) (show TokB w6 w1.heap.size zeroT from hc6) fun w10 h10 hf10 => hR _ _ ⟨hf10, ⟨_, rfl⟩, h10⟩
end Go.Proofs.YtjbfehippchniaaGreatDoor

/- Lex: the reference's bytes, capitals and signs. No condition but those stated. -/
set_option maxRecDepth 100000
set_option linter.unusedVariables false
set_option linter.unusedSimpArgs false
namespace Go.Proofs.YtjbfehippchniaaGreatDoor
open Go.Sh Go.Sh.Lx Go.RowKit
variable {w0 w w' : World}
theorem isBlank_c (x : UInt8) (w : World) : Calls Tryz.prog 29 #[.int .u8 ((x.toNat : Nat) : Int)] w fun e w' => e = .returned (.bool (blkB x)) /\ w' = w := by
  refine calls_by (F29_calls _ w) fun R hR => Br.of (fun q => hR _ _ ⟨?_, rfl⟩) (fun q => hR _ _ ⟨?_, rfl⟩)
  · unfold Lx.blkB; rw [decide_eq_true (by have := btrue q; omega)]; rfl
  · unfold Lx.blkB
    congr 2
    rw [decide_eq_false (by have := bfalse q; omega), Bool.false_or, beq_dec]; exact dec_eq (by omega)
theorem isByte_c (x : UInt8) (w : World) : Calls Tryz.prog 59 #[.int .u8 ((x.toNat : Nat) : Int)] w fun e w' => e = .returned (.bool (isB x)) /\ w' = w := by
  refine calls_by (F59_calls _ w) fun R hR => Br.of (fun q => hR _ _ ⟨?_, rfl⟩) (fun q => Br.of (fun q2 => hR _ _ ⟨?_, rfl⟩) (fun q2 => Br.of (fun q3 => hR _ _ ⟨?_, rfl⟩) (fun q3 => hR _ _ ⟨?_, rfl⟩)))
  all_goals unfold isB; congr 2
  · have := btrue q; symm; simp; omega
  · have := btrue q2; symm; simp; omega
  · have h1 := bfalse q; have h2 := bfalse q2; have h3 := dtrue q3
    rw [decide_eq_false (show ¬ x.toNat = 9 by omega), decide_eq_false (show ¬ x.toNat = 10 by omega), decide_eq_true (show 32 <= x.toNat by omega)]
    simp only [Bool.false_or, Bool.true_and]; exact dec_eq (by omega)
  · have h1 := bfalse q; have h2 := bfalse q2; have h3 := dfalse q3
    symm; simp; omega
theorem isLetter_c (x : UInt8) (w : World) : Calls Tryz.prog 27 #[.int .u8 ((x.toNat : Nat) : Int)] w fun e w' => e = .returned (.bool (letB x)) /\ w' = w := by
  refine calls_by (F27_calls _ w) fun R hR => Br.of (fun q => hR _ _ ⟨?_, rfl⟩) (fun q => Br.of (fun q2 => Br.of (fun q3 => hR _ _ ⟨?_, rfl⟩) (fun q3 => Br.of (fun q4 => hR _ _ ⟨?_, rfl⟩) (fun q4 => hR _ _ ⟨?_, rfl⟩))) (fun q2 => Br.of (fun q4 => hR _ _ ⟨?_, rfl⟩) (fun q4 => hR _ _ ⟨?_, rfl⟩)))
  all_goals unfold letB; congr 2
  · have := btrue q; symm; simp; omega
  · have := dtrue q2; have := dtrue q3; symm; simp; omega
  · have h1 := bfalse q; have h2 := dtrue q2; have h3 := dfalse q3; have h4 := dtrue q4
    rw [decide_eq_false (show ¬ x.toNat = 95 by omega), decide_eq_false (show ¬ x.toNat <= 122 by omega), decide_eq_true (show 65 <= x.toNat by omega)]
    simp only [Bool.false_or, Bool.true_and, Bool.and_false]; exact dec_eq (by omega)
  · have h1 := bfalse q; have h2 := dtrue q2; have h3 := dfalse q3; have h4 := dfalse q4
    symm; simp; omega
  · have h1 := bfalse q; have h2 := dfalse q2; have h4 := dtrue q4
    rw [decide_eq_false (show ¬ x.toNat = 95 by omega), decide_eq_false (show ¬ 97 <= x.toNat by omega), decide_eq_true (show 65 <= x.toNat by omega)]
    simp only [Bool.false_or, Bool.true_and, Bool.false_and]; exact dec_eq (by omega)
  · have h1 := bfalse q; have h2 := dfalse q2; have h4 := dfalse q4
    symm; simp; omega
theorem capital_c (x : UInt8) (w : World) : Calls Tryz.prog 96 #[.int .u8 ((x.toNat : Nat) : Int)] w fun e w' => e = .returned (.int .u8 (((capU x).toNat : Nat) : Int)) /\ w' = w := by
  refine calls_by (F96_calls _ w) fun R hR => Br.of (fun q => Br.of (fun q2 => hR _ _ ⟨?_, rfl⟩) (fun q2 => hR _ _ ⟨?_, rfl⟩)) (fun q => hR _ _ ⟨?_, rfl⟩)
  · have h1 := dtrue q; have h2 := dtrue q2
    have e : (capU x).toNat = x.toNat - 32 := by
      have : ∀ n : Nat, n < 256 -> 97 <= n -> n <= 122 -> (capU (UInt8.ofNat n)).toNat = n - 32 := by decide +kernel
      have h3 := this x.toNat x.toNat_lt (by omega) (by omega)
      rwa [UInt8.ofNat_toNat] at h3
    rw [e, IntKind.wrap_u8]
    congr 2; omega
  · have h2 := dfalse q2; unfold capU; rw [if_neg (by omega)]
  · have h2 := dfalse q; unfold capU; rw [if_neg (by omega)]
theorem u9s : Tryz.prog.underlying 9 = some .string := by kernel_rfl
theorem u70s : Tryz.prog.underlying 57 = some (.slice 5) := by kernel_rfl
theorem u5s : Tryz.prog.underlying 5 = some (.int .u8) := by kernel_rfl
theorem capitals_c (s : List UInt8) (hs : s.length <= 140737488355328) (w : World) : Calls Tryz.prog 63 #[.string (bs s)] w fun e w' => e = .returned (.string (bs (s.map capU))) /\ Pu w w' := by
  refine calls_by (F63_calls _ w) fun R hR => ?_
  obtain ⟨l, w1, hrun, hp1, hm⟩ := conv_mark (P := Tryz.prog) u9s u70s u5s (bs s) (by rw [bs_size]; exact hs) w
  rw [bs_list] at hm
  refine ⟨l, w1, hrun, ?_⟩
  have hl0 := hm.len
  refine loopUp s.length (fun k t w' => t = (k : Int) /\ Pu w w' /\ MRow 5 w w' l ((s.take k).map capU ++ s.drop k)) ⟨rfl, hp1, hm⟩ ?_
  rintro k J t w2 hk ⟨rfl, hp2, hm2⟩ hJ
  have hl := hm2.len
  have hlen : ((s.take k).map capU ++ s.drop k).length = s.length := by simp; omega
  refine Br.of (fun q => ?_) (fun q => ?_)
  · have q := dtrue q
    have hk2 : k < s.length := by omega
    obtain ⟨x, hx⟩ := at_k hk2
    have hgx : ((s.take k).map capU ++ s.drop k)[k]? = some x := by
      rw [List.getElem?_append_right (by simp; omega)]
      simp only [List.length_map, List.length_take, Nat.min_eq_left (Nat.le_of_lt hk2), Nat.sub_self]
      rw [get_drop]; simpa using hx
    obtain ⟨a, ha, hc⟩ := hm2.cell hgx
    refine ⟨a, ha, by omega, by omega, _, by rw [toNat_i]; exact hc, (capital_c x w2).mono ?_⟩
    rintro e w3 ⟨rfl, rfl⟩
    obtain ⟨a2, ha2, hst⟩ := hm2.st1 hp2 (j := k) (by omega) (capU x) (K := fun w6 => J (IntKind.i64.wrap ((k : Int) + 1)) w6) fun w6 hm6 hp6 => by
      rw [wrap_in (by omega) (by omega)]
      refine hJ _ _ hk2 ⟨by omega, hp6, ?_⟩
      have e : (((s.take k).map capU ++ s.drop k)).set k (capU x) = (s.take (k + 1)).map capU ++ s.drop (k + 1) := by
        rw [List.set_append_right _ _ (by simp; omega)]
        simp only [List.length_map, List.length_take, Nat.min_eq_left (Nat.le_of_lt hk2), Nat.sub_self]
        rw [drop_at hx, List.set_cons_zero, take_at hx, List.map_append, List.append_assoc]; rfl
      rw [e] at hm6; exact hm6
    exact ⟨_, rfl, a2, ha2, by omega, by omega, by rw [toNat_i]; exact hst⟩
  · have q := dfalse q
    obtain rfl : k = s.length := by omega
    have e : (s.take s.length).map capU ++ s.drop s.length = s.map capU := by rw [List.take_length, List.drop_length, List.append_nil]
    rw [e] at hm2
    exact ⟨_, w2, conv_text (P := Tryz.prog) u9s u70s u5s hm2, hR _ _ ⟨rfl, hp2⟩⟩
theorem rsigns_c (w : World) : Calls Tryz.prog 98 #[] w fun e w' => Pu w w' /\ ∃ s : SV, e = .returned (.slice s.a s.len s.cap) /\ RdSl w' s (signsS.map bs) := by
  refine calls_by (F98_calls w) fun R hR => alB fun w1 hp1 hb1 => hR _ _ ⟨hp1, ⟨some ⟨w.heap.size, 0, none⟩, 38, 38⟩, rfl, ?_⟩
  exact rd_strs (l := signsS.map bs) hb1 (by decide)
theorem sub_ext {d : List UInt8} {p n : Nat} (h : p + n <= d.length) : (bs d).extract p (p + n) = bs ((d.drop p).take n) := by
  rw [extract_take, List.take_add, List.drop_append, List.drop_eq_nil_of_le (by rw [List.length_take]; omega), List.nil_append, List.length_take, Nat.min_eq_left (by omega), Nat.sub_self, List.drop_zero]
theorem signAt_c {d : List UInt8} (hd : d.length <= 4000) {p : Nat} (hp : p <= d.length) (w : World) : Calls Tryz.prog 66 #[.string (bs d), .int .i64 (p : Int)] w fun e w' => Pu w w' /\ e = .returned (.string (bs ((signS (d.drop p)).getD []))) := by
  refine calls_by (F66_calls _ _ w) fun R hR => (rsigns_c w).mono ?_
  rintro e w1 ⟨hp1, s, rfl, hs⟩
  refine ⟨s, rfl, ?_⟩
  have hsl : s.len = 38 := by rw [hs.len]; rfl
  refine loopUp 38 (fun k t w' => t = (k : Int) /\ Pu w w' /\ RdSl w' s (signsS.map bs) /\ signS (d.drop p) = (signsS.drop k).find? fun x => decide (((d.drop p).take x.length).map capU = x)) ⟨rfl, hp1, hs, rfl⟩ ?_
  rintro k J t w5 hk ⟨rfl, hP5, hs5, hfind⟩ hJ
  refine Br.of (fun q => ?_) (fun q => ?_)
  · have hk2 : k < 38 := by have := dtrue q; omega
    obtain ⟨x, hx⟩ := at_k (l := signsS) (k := k) hk2
    have hxm := List.mem_of_getElem? hx
    have hxl := signs_len x hxm
    have hget : ∀ {w6 : World}, Pu w5 w6 -> ∃ a, s.a = some a /\ w6.cell? (a.add (((k : Int)).toNat * 1)) = some (.string (bs x)) := fun {w6} hp6 => by
      obtain ⟨a, ha, _, hc⟩ := (hs5.pu hp6).str (i := k) (x := bs x) (by rw [List.getElem?_map, hx]; rfl)
      exact ⟨a, ha, by rw [toNat_i]; exact hc⟩
    obtain ⟨a, ha, hc⟩ := hget (Pu.refl w5)
    rw [drop_at hx, List.find?_cons] at hfind
    refine ⟨a, ha, by omega, by omega, _, hc, dwE_intro fun w6 hp6 _ => ?_⟩
    rw [bs_size_i, bs_size_i, wrap_in (n := (p : Int) + (x.length : Int)) (by omega) (by omega), wrap_in (n := (k : Int) + 1) (by omega) (by omega)]
    have e1 : ((p : Int) + (x.length : Int)).toNat = p + x.length := by omega
    refine ⟨fun w' => Pu w5 w', hp6, Br.of (fun q1 => ?_) (fun q1 => ?_)⟩
    · have q1 := dtrue q1
      refine ⟨by omega, by rw [e1, bs_size]; omega, by omega, by rw [e1, toNat_i]; omega, a, ha, by omega, by omega, bs x, fun w' hw' => ?_, ?_⟩
      · obtain ⟨a', ha', hc'⟩ := hget hw'
        rw [ha] at ha'; cases ha'; exact hc'
      rw [e1, toNat_i, sub_ext (by omega)]
      refine (capitals_c _ (by rw [List.length_take, List.length_drop]; omega) w6).mono ?_
      rintro e w7 ⟨rfl, hp7⟩
      refine ⟨_, rfl, hp6.trans hp7, ?_⟩
      rw [bs_beq]
      refine Br.of (fun q2 => ?_) (fun q2 => ?_)
      · rw [q2] at hfind
        obtain ⟨a', ha', hc'⟩ := hget (hp6.trans hp7)
        rw [toNat_i] at hc'
        refine ⟨a', ha', by omega, by omega, _, hc', hR _ _ ⟨(hP5.trans hp6).trans hp7, ?_⟩⟩
        rw [hfind]; rfl
      · rw [q2] at hfind
        exact hJ _ _ hk2 ⟨by omega, (hP5.trans hp6).trans hp7, hs5.pu (hp6.trans hp7), hfind⟩
    · have q1 := dfalse q1
      have hne : decide (((d.drop p).take x.length).map capU = x) = false := decide_eq_false fun e => by
        have := congrArg List.length e
        rw [List.length_map, List.length_take, List.length_drop] at this; omega
      rw [hne] at hfind
      exact hJ _ _ hk2 ⟨by omega, hP5.trans hp6, hs5.pu hp6, hfind⟩
  · have hk2 : k = 38 := by have := dfalse q; omega
    subst hk2
    have hfind : signS (d.drop p) = none := hfind
    refine hR _ _ ⟨hP5, ?_⟩
    rw [hfind]; rfl
end Go.Proofs.YtjbfehippchniaaGreatDoor

/- Lex: a token, as the scanner takes it. The signs: what the library's tables of letters and of bytes lay. -/
set_option maxRecDepth 100000
set_option linter.unusedVariables false
set_option linter.unusedSimpArgs false
namespace Go.Proofs.YtjbfehippchniaaGreatDoor
open Go.Sh Go.Sh.Lx Go.RowKit
variable {w0 w w' : World} {b p : Nat} {d : List UInt8} {l g : Bool} {bad : Int}
theorem outB {w5 : World} {r p' : Nat} {l' g' : Bool} {bad' : Int} {t5 t6 : Tok} {k : Bool} {R : Rt} (h0 : w0.heap.size <= r) (hn : w.heap.size <= r) (hrb : b ≠ r) (h5 : Sc w0 w5 b d p' l' g' bad') (hf5 : Fr (· = b) w w5) (hb5 : TokB w5 r t6) (hk : ∀ w', Sc w0 w' b d p' l' g' bad' -> Fr (· = b) w w' -> R (retE t5 k) w') :
    stA Tryz.prog 30 (⟨r, 0, none⟩ : Addr) #[.int .i64 t5.kind, .int .i64 t5.at_, .string t5.text] w5 fun w' => ∃ n0 : Int, w'.cell? ((⟨r, 0, none⟩ : Addr).add 0) = some (.int .i64 n0) /\ ∃ n1 : Int, w'.cell? ((⟨r, 0, none⟩ : Addr).add 1) = some (.int .i64 n1) /\
      ∃ s2 : ByteArray, w'.cell? ((⟨r, 0, none⟩ : Addr).add 2) = some (.string s2) /\ R (.returned (.tuple #[.agg #[.int .i64 n0, .int .i64 n1, .string s2], .bool k])) w' :=
  outT hb5 fun w8 hf8 => hk w8 (h5.fr hf8 hrb (fun i hi => by rw [show i = _ from hi]; exact h0)) (hf5.trans hf8 fun i hi hlt => by rw [show i = _ from hi] at hlt; omega)
theorem letdig_low {x : UInt8} (h : (letB x || digB x) = true) : x.toNat < 128 := by
  have : ∀ n : Nat, n < 256 -> (letB (UInt8.ofNat n) || digB (UInt8.ofNat n)) = true -> (UInt8.ofNat n).toNat < 128 := by decide +kernel
  have h2 := this x.toNat x.toNat_lt
  rw [UInt8.ofNat_toNat] at h2
  exact h2 h
theorem quote_nl {x : UInt8} (h : x.toNat = 34 ∨ x.toNat = 39) : nlB x = false := by unfold nlB; exact decide_eq_false (by omega)
theorem tw_pos {f : UInt8 -> Bool} {x : UInt8} {r : List UInt8} (h : f x = true) : 1 <= ((x :: r).takeWhile f).length := by rw [List.takeWhile_cons, if_pos h]; simp
theorem ext_tw (f : UInt8 -> Bool) (d : List UInt8) (p : Nat) (hp : p <= d.length) : (bs d).extract p (p + ((d.drop p).takeWhile f).length) = bs ((d.drop p).takeWhile f) := by
  have := tw_drop_le f d p hp
  rw [extract_take]
  congr 1
  rw [List.take_add, List.drop_append, List.drop_eq_nil_of_le (by rw [List.length_take]; omega), List.nil_append, List.length_take, Nat.min_eq_left (by omega), Nat.sub_self, List.drop_zero]
  exact tw_take f _
theorem token_c (hL : Laid w0) {x : UInt8} {r : List UInt8} (h : Sc w0 w b d p l g bad) (hd : d.drop p = x :: r) : Calls Tryz.prog 170 #[.pointer (some ⟨b, 0, none⟩)] w fun e w' => Fr (· = b) w w' /\ match tokS x r with
    | .tok k t m => e = retE ⟨k, (p : Int), bs t⟩ true /\ Sc w0 w' b d (p + 1 + m) l g bad
    | .bad i => ∃ t p', e = retE t false /\ Sc w0 w' b d p' l g ((p + i : Nat) : Int)
    | _ => False := by
  have hlim := h.lim
  have hbl := blk_lt h.blk
  have hnew := h.new
  have hsi := h.since.size
  have hle := h.le
  have hdl : (d.drop p).length = r.length + 1 := by rw [hd]; rfl
  rw [List.length_drop] at hdl
  have hgx : d[p]? = some x := by have := congrArg (·[0]?) hd; simpa [get_drop] using this
  refine calls_by (F170_calls _ w) fun R hR => alB fun w1 hp1 hb1 => ?_
  have h1 := h.pu hp1
  refine ⟨_, h1.at_, alB fun w2 hp2 hb2 => ?_⟩
  have hr1 := blk_lt hb1
  have hs1 := hp1.size
  have hs2 := hp2.size
  have hr2 := blk_lt hb2
  have hb1 := hp2.blk hb1
  refine stA_fill hb2 s49.symm rfl rfl fun w3 hb3 hf3 hz3 => ?_
  have hb1 : TokB w3 w.heap.size zeroT := hf3.blk hb1 (by omega)
  have hb3 : TokB w3 w1.heap.size ⟨0, (p : Int), ⟨#[]⟩⟩ := hb3
  have hP3 : Pu w w3 := Pu.andNew (hp1.trans hp2) hf3 (fun i hi => by rw [show i = _ from hi]; omega)
  have h3 := h.pu hP3
  obtain ⟨r5, hr5⟩ : ∃ r5, r5 = w1.heap.size := ⟨_, rfl⟩
  rw [← hr5] at hb3 ⊢
  obtain ⟨r2, hr2'⟩ : ∃ r2, r2 = w.heap.size := ⟨_, rfl⟩
  rw [← hr2'] at hb1 ⊢
  -- what the second block keeps through the first's calls
  refine (is_c h3 p 1).mono ?_
  rintro e w4 ⟨rfl, hp4⟩
  have h4 := h3.pu hp4
  have hb1 := hp4.blk hb1
  have hb3 := hp4.blk hb3
  have hP4 := hP3.trans hp4
  have el : clsAt d p 1 = letB x := by rw [clsAt_let, hgx]
  rw [el]
  refine ⟨_, rfl, Br.of (fun ql => ?_) (fun ql => ?_)⟩
  · -- a word
    have hts : tokS x r = (let t := (x :: r).takeWhile fun c => letB c || digB c; if 24 < t.length then .bad 0 else .tok 0 (t.map capU) (t.length - 1)) := by unfold tokS; rw [if_pos ql]
    obtain ⟨f, hf⟩ : ∃ f : UInt8 -> Bool, f = fun c => letB c || digB c := ⟨_, rfl⟩
    obtain ⟨t, ht⟩ : ∃ t, t = (d.drop p).takeWhile f := ⟨_, rfl⟩
    have htl : 1 <= t.length := by rw [ht, hd]; exact tw_pos (by rw [hf]; simp [ql])
    have htle : p + t.length <= d.length := by rw [ht]; exact tw_drop_le f d p hle
    rw [hts, ← hd, ← hf, ← ht] at hR
    refine loopUp t.length (fun k _ w' => Sc w0 w' b d (p + k) l g bad /\ Fr (· = b) w w' /\ TokB w' r2 zeroT /\ TokB w' r5 ⟨0, (p : Int), ⟨#[]⟩⟩) ⟨h4, Fr.pu hP4, hb1, hb3⟩ ?_
    rintro k J _ w5 hk ⟨h5, hf5, hb5, hc5⟩ hJ
    have htest := head_test (f := f) (d := d) (p := p) (k := k) (by rw [← ht]; exact hk)
    rw [← ht] at htest
    have nxt : ∀ {w6 : World}, Pu w5 w6 -> k < t.length -> (∃ n36 : Int, w6.cell? ((⟨b, 0, none⟩ : Addr).add 1) = some (.int .i64 n36) /\ ptrE (some (⟨b, 0, none⟩ : Addr)) fun a34 => st1 (a34.add 1) (.int .i64 (IntKind.i64.wrap (n36 + 1))) w6 fun w35 => J () w35) := fun {w6} hp6 hlt => by
      have h6 := h5.pu hp6
      exact ⟨_, h6.at_, h6.st_at (p' := p + (k + 1)) (by omega) (by rw [wrap_in (by omega) (by omega)]; omega) fun w7 h7 hf7 => hJ _ _ hlt ⟨h7, frb (frp hf5 hp6) hf7, hf7.blk (hp6.blk hb5) (by omega), hf7.blk (hp6.blk hc5) (by omega)⟩⟩
    refine ⟨_, h5.at_, (is_c h5 (p + k) 1).mono ?_⟩
    rintro e w6 ⟨rfl, hp6⟩
    have h6 := h5.pu hp6
    refine ⟨_, rfl, Br.of (fun q1 => nxt hp6 ?_) (fun q1 => ⟨_, h6.at_, (is_c h6 (p + k) 2).mono ?_⟩)⟩
    · rw [clsAt_let] at q1
      apply dtrue
      rw [← htest]
      cases hg : d[p + k]? with
      | none => rw [hg] at q1; cases q1
      | some y => rw [hg] at q1; show f y = true; rw [hf]; have q1 : letB y = true := q1; simp [q1]
    · rintro e w7 ⟨rfl, hp7⟩
      have h7 := h6.pu hp7
      have hp67 := hp6.trans hp7
      refine ⟨_, rfl, Br.of (fun q2 => nxt hp67 ?_) (fun q2 => ?_)⟩
      · rw [clsAt_dig] at q2
        apply dtrue
        rw [← htest]
        cases hg : d[p + k]? with
        | none => rw [hg] at q2; cases q2
        | some y => rw [hg] at q2; show f y = true; rw [hf]; have q2 : digB y = true := q2; simp [q2]
      · have hkt : k = t.length := by
          have : ¬ k < t.length := by
            apply dfalse
            rw [← htest]
            rw [clsAt_let] at q1
            rw [clsAt_dig] at q2
            cases hg : d[p + k]? with
            | none => rfl
            | some y => rw [hg] at q1 q2; show f y = false; rw [hf]; have q1 : letB y = false := q1; have q2 : digB y = false := q2; simp [q1, q2]
          omega
        subst hkt
        refine dwE_intro fun w8 hp8 _ => ?_
        have h8 := h7.pu hp8
        have hb8 := (hp67.trans hp8).blk hb5
        have hc8 := (hp67.trans hp8).blk hc5
        have hf8 := frp hf5 (hp67.trans hp8)
        refine ⟨_, h8.s, _, h8.at_, by omega, by rw [toNat_i, bs_size]; omega, by omega, by rw [toNat_i, toNat_i]; omega, ?_⟩
        rw [toNat_i, toNat_i, ht, ext_tw f d p hle, ← ht]
        rw [ptrE_some]
        refine (upper_c (hL.pu h8.since) t (by omega)).mono ?_
        rintro e w9 ⟨rfl, hp9⟩
        have hup : Lib.toUpperD t = t.map capU := upD_low fun y hy => by
          have : (t.all f) = true := by rw [ht]; exact List.all_takeWhile
          have := List.all_eq_true.1 this y hy
          rw [hf] at this
          exact letdig_low this
        rw [hup]
        have h9 := h8.pu hp9
        have hb9 := hp9.blk hb8
        have hc9 := hp9.blk hc8
        have hf9 := frp hf8 hp9
        refine ⟨_, rfl, ?_⟩
        refine st1_intro hc9 (by simp) fun w10 hw10 hb10 => ?_
        have hg10 : Fr (· = r5) w9 w10 := by rw [hw10]; exact Fr.setCell w9 ⟨r5, 0, none⟩ _
        rw [ptrE_some, add_def]
        refine st1_intro hb10 (by simp) fun w11 hw11 hb11 => ?_
        have hg11 : Fr (· = r5) w10 w11 := by rw [hw11]; exact Fr.setCell w10 ⟨r5, 0 + 2, none⟩ _
        have hc11 : TokB w11 r5 ⟨0, (p : Int), bs (t.map capU)⟩ := hb11
        have hb11 := hg11.blk (hg10.blk hb9 (by omega)) (by omega)
        have h11 := (h9.fr hg10 (by omega) (fun i hi => by rw [show i = _ from hi]; omega)).fr hg11 (by omega) (fun i hi => by rw [show i = _ from hi]; omega)
        have hf11 : Fr (· = b) w w11 := (hf9.trans hg10 fun i hi hlt => by rw [show i = _ from hi] at hlt; omega).trans hg11 fun i hi hlt => by rw [show i = _ from hi] at hlt; omega
        refine dwE_intro fun w12 hp12 _ => ?_
        have h12 := h11.pu hp12
        have hb12 := hp12.blk hb11
        have hc12 := hp12.blk hc11
        have hf12 := frp hf11 hp12
        refine ⟨fun w' => TokB w' r5 ⟨0, (p : Int), bs (t.map capU)⟩, hc12, _, fun w' h' => cl h' 0, _, fun w' h' => cl h' 1, _, fun w' h' => cl h' 2, _, fun w' h' => cl h' 0, _, fun w' h' => cl h' 1, _, fun w' h' => cl h' 2, (short_c h12 ⟨0, (p : Int), bs (t.map capU)⟩ 24).mono ?_⟩
        rintro e w13 ⟨hf13, hres⟩
        have hc13 := hf13.blk hc12 (by omega)
        have hb13 := hf13.blk hb12 (by omega)
        have hsz : (bs (t.map capU)).size = t.length := by rw [bs_size, List.length_map]
        dsimp only at hres hR
        rw [hsz] at hres
        by_cases hbig : 24 < t.length
        · rw [if_pos hbig] at hres hR
          obtain ⟨rfl, h13⟩ := hres
          refine ⟨_, rfl, hc13, ?_⟩
          exact outB (w := w) (t5 := ⟨0, (p : Int), bs (t.map capU)⟩) (by omega) (by omega) (by omega) h13 (frb hf12 hf13) hb13 fun w14 h14 hf14 => hR _ _ ⟨hf14, _, _, rfl, h14⟩
        · rw [if_neg hbig] at hres hR
          obtain ⟨rfl, h13⟩ := hres
          refine ⟨_, rfl, hc13, ?_⟩
          exact outB (w := w) (t5 := ⟨0, (p : Int), bs (t.map capU)⟩) (by omega) (by omega) (by omega) h13 (frb hf12 hf13) hb13 fun w14 h14 hf14 => hR _ _ ⟨hf14, rfl, by rw [show p + 1 + (t.length - 1) = p + t.length by omega]; exact h14⟩
  refine (is_c h4 p 2).mono ?_
  rintro e w5 ⟨rfl, hp5⟩
  have h5 := h4.pu hp5
  have hb1 := hp5.blk hb1
  have hb3 := hp5.blk hb3
  have hP5 := hP4.trans hp5
  have ed : clsAt d p 2 = digB x := by rw [clsAt_dig, hgx]
  rw [ed]
  refine ⟨_, rfl, Br.of (fun qd => ?_) (fun qd => ?_)⟩
  · -- a number
    have hts : tokS x r = (let t := (x :: r).takeWhile digB; if 15 < t.length then .bad 0 else .tok 1 t (t.length - 1)) := by unfold tokS; rw [if_neg (by rw [ql]; simp), if_pos qd]
    obtain ⟨t, ht⟩ : ∃ t, t = (d.drop p).takeWhile digB := ⟨_, rfl⟩
    have htl : 1 <= t.length := by rw [ht, hd]; exact tw_pos qd
    have htle : p + t.length <= d.length := by rw [ht]; exact tw_drop_le digB d p hle
    rw [hts, ← hd, ← ht] at hR
    refine loopUp t.length (fun k _ w' => Sc w0 w' b d (p + k) l g bad /\ Fr (· = b) w w' /\ TokB w' r2 zeroT /\ TokB w' r5 ⟨0, (p : Int), ⟨#[]⟩⟩) ⟨h5, Fr.pu hP5, hb1, hb3⟩ ?_
    rintro k J _ w6 hk ⟨h6, hf6, hb6, hc6⟩ hJ
    have htest := head_test (f := digB) (d := d) (p := p) (k := k) (by rw [← ht]; exact hk)
    rw [← ht] at htest
    refine ⟨_, h6.at_, (is_c h6 (p + k) 2).mono ?_⟩
    rintro e w7 ⟨rfl, hp7⟩
    have h7 := h6.pu hp7
    rw [clsAt_dig, htest]
    refine ⟨_, rfl, Br.of (fun q1 => ?_) (fun q1 => ?_)⟩
    · have q1 := dtrue q1
      exact ⟨_, h7.at_, h7.st_at (p' := p + (k + 1)) (by omega) (by rw [wrap_in (by omega) (by omega)]; omega) fun w8 h8 hf8 => hJ _ _ q1 ⟨h8, frb (frp hf6 hp7) hf8, hf8.blk (hp7.blk hb6) (by omega), hf8.blk (hp7.blk hc6) (by omega)⟩⟩
    · have q1 := dfalse q1
      obtain rfl : k = t.length := by omega
      refine dwE_intro fun w8 hp8 _ => ?_
      have h8 := h7.pu hp8
      have hb8 := (hp7.trans hp8).blk hb6
      have hc8 := (hp7.trans hp8).blk hc6
      have hf8 := frp hf6 (hp7.trans hp8)
      refine ⟨fun w' => Sc w0 w' b d (p + t.length) l g bad, h8, _, fun w' h' => h'.s, _, fun w' h' => h'.at_, by omega, by rw [toNat_i, bs_size]; omega, by omega, by rw [toNat_i, toNat_i]; omega, ?_⟩
      rw [toNat_i, toNat_i, ht, ext_tw digB d p hle, ← ht, ptrE_some]
      refine st1_intro hc8 (by simp) fun w10 hw10 hb10 => ?_
      have hg10 : Fr (· = r5) w8 w10 := by rw [hw10]; exact Fr.setCell w8 ⟨r5, 0, none⟩ _
      have h10 := h8.fr hg10 (by omega) (fun i hi => by rw [show i = _ from hi]; omega)
      refine ⟨h10, ?_⟩
      rw [ptrE_some, add_def]
      refine st1_intro hb10 (by simp) fun w11 hw11 hb11 => ?_
      have hg11 : Fr (· = r5) w10 w11 := by rw [hw11]; exact Fr.setCell w10 ⟨r5, 0 + 2, none⟩ _
      have hc11 : TokB w11 r5 ⟨1, (p : Int), bs t⟩ := hb11
      have hb11 := hg11.blk (hg10.blk hb8 (by omega)) (by omega)
      have h11 := h10.fr hg11 (by omega) (fun i hi => by rw [show i = _ from hi]; omega)
      have hf11 : Fr (· = b) w w11 := (hf8.trans hg10 fun i hi hlt => by rw [show i = _ from hi] at hlt; omega).trans hg11 fun i hi hlt => by rw [show i = _ from hi] at hlt; omega
      refine dwE_intro fun w12 hp12 _ => ?_
      have h12 := h11.pu hp12
      have hb12 := hp12.blk hb11
      have hc12 := hp12.blk hc11
      have hf12 := frp hf11 hp12
      refine ⟨fun w' => TokB w' r5 ⟨1, (p : Int), bs t⟩, hc12, _, fun w' h' => cl h' 0, _, fun w' h' => cl h' 1, _, fun w' h' => cl h' 2, _, fun w' h' => cl h' 0, _, fun w' h' => cl h' 1, _, fun w' h' => cl h' 2, (short_c h12 ⟨1, (p : Int), bs t⟩ 15).mono ?_⟩
      rintro e w13 ⟨hf13, hres⟩
      have hc13 := hf13.blk hc12 (by omega)
      have hb13 := hf13.blk hb12 (by omega)
      have hsz : (bs t).size = t.length := bs_size t
      dsimp only at hres hR
      rw [hsz] at hres
      by_cases hbig : 15 < t.length
      · rw [if_pos hbig] at hres hR
        obtain ⟨rfl, h13⟩ := hres
        refine ⟨_, rfl, hc13, ?_⟩
        exact outB (w := w) (t5 := ⟨1, (p : Int), bs t⟩) (by omega) (by omega) (by omega) h13 (frb hf12 hf13) hb13 fun w14 h14 hf14 => hR _ _ ⟨hf14, _, _, rfl, h14⟩
      · rw [if_neg hbig] at hres hR
        obtain ⟨rfl, h13⟩ := hres
        refine ⟨_, rfl, hc13, ?_⟩
        exact outB (w := w) (t5 := ⟨1, (p : Int), bs t⟩) (by omega) (by omega) (by omega) h13 (frb hf12 hf13) hb13 fun w14 h14 hf14 => hR _ _ ⟨hf14, rfl, by rw [show p + 1 + (t.length - 1) = p + t.length by omega]; exact h14⟩
  · -- a text, a date, a sign
    have hnl : ¬ letB x = true := by rw [ql]; simp
    have hnd : ¬ digB x = true := by rw [qd]; simp
    have quoted : x.toNat = 34 ∨ x.toNat = 39 -> ∃ n108_0 : Int, w5.cell? ((⟨r5, 0, none⟩ : Addr).add 0) = some (.int .i64 n108_0) /\ ∃ n108_1 : Int, w5.cell? ((⟨r5, 0, none⟩ : Addr).add 1) = some (.int .i64 n108_1) /\ ∃ s108_2 : ByteArray, w5.cell? ((⟨r5, 0, none⟩ : Addr).add 2) = some (.string s108_2) /\
        Calls Tryz.prog 190 #[.pointer (some ⟨b, 0, none⟩), .agg #[.int .i64 n108_0, .int .i64 n108_1, .string s108_2]] w5 fun e w63 =>
        ∃ n109_0_0 : Int, ∃ n109_0_1 : Int, ∃ s109_0_2 : ByteArray, ∃ b109_1 : Bool, e = .returned (.tuple #[.agg #[.int .i64 n109_0_0, .int .i64 n109_0_1, .string s109_0_2], .bool b109_1]) /\
        stA Tryz.prog 30 (⟨r2, 0, none⟩ : Addr) #[.int .i64 n109_0_0, .int .i64 n109_0_1, .string s109_0_2] w63 fun w' => ∃ n0 : Int, w'.cell? ((⟨r2, 0, none⟩ : Addr).add 0) = some (.int .i64 n0) /\ ∃ n1 : Int, w'.cell? ((⟨r2, 0, none⟩ : Addr).add 1) = some (.int .i64 n1) /\
      ∃ s2 : ByteArray, w'.cell? ((⟨r2, 0, none⟩ : Addr).add 2) = some (.string s2) /\ R (.returned (.tuple #[.agg #[.int .i64 n0, .int .i64 n1, .string s2], .bool b109_1])) w' := fun hq => by
      refine ⟨_, cl hb3 0, _, cl hb3 1, _, cl hb3 2, (text_c h5 hd (quote_nl hq) ⟨0, (p : Int), ⟨#[]⟩⟩).mono ?_⟩
      rintro e w6 ⟨hf6, hres⟩
      have hb6 := hf6.blk hb1 (by omega)
      have hf6' := pfr hP5 hf6
      have hts : tokS x r = quoteS x r := by unfold tokS; rw [if_neg hnl, if_neg hnd, if_pos hq]
      rw [hts] at hR
      cases hqs : quoteS x r with
      | go m => rw [hqs] at hres; exact hres.elim
      | eol => rw [hqs] at hres; exact hres.elim
      | tok k t m =>
        rw [hqs] at hres hR
        obtain ⟨rfl, h6⟩ := hres
        refine ⟨_, _, _, _, rfl, ?_⟩
        exact outB (w := w) (t5 := ⟨k, (p : Int), bs t⟩) (by omega) (by omega) (by omega) h6 hf6' hb6 fun w14 h14 hf14 => hR _ _ ⟨hf14, rfl, h14⟩
      | bad i =>
        rw [hqs] at hres hR
        obtain ⟨⟨t, rfl⟩, h6⟩ := hres
        refine ⟨_, _, _, _, rfl, ?_⟩
        exact outB (w := w) (t5 := t) (by omega) (by omega) (by omega) h6 hf6' hb6 fun w14 h14 hf14 => hR _ _ ⟨hf14, _, _, rfl, h14⟩
    refine ⟨_, h5.s, x, by omega, by rw [toNat_i]; exact bs_get hgx, Br.of (fun q1 => quoted (.inl (by have := btrue q1; omega))) (fun q1 => ⟨_, h5.s, x, by omega, by rw [toNat_i]; exact bs_get hgx, Br.of (fun q2 => quoted (.inr (by have := btrue q2; omega))) (fun q2 => ?_)⟩)⟩
    have hnq : ¬ (x.toNat = 34 ∨ x.toNat = 39) := by have := bfalse q1; have := bfalse q2; omega
    have hts : tokS x r = match dateL (d.drop p) with
        | some (dd, n) => .tok 3 dd (n - 1)
        | none => match signS (d.drop p) with
          | some w => .tok 4 w (w.length - 1)
          | none => .bad 0 := by
      rw [hd]; unfold tokS; rw [if_neg hnl, if_neg hnd, if_neg hnq]
      cases dateL (x :: r) with
      | none => cases signS (x :: r) <;> rfl
      | some y => obtain ⟨_, _⟩ := y; rfl
    rw [hts] at hR
    refine (date_c h5).mono ?_
    rintro e w6 ⟨hp6, s, n, k, rfl, hdat⟩
    have h6 := h5.pu hp6
    have hb6 := hp6.blk hb1
    have hc6 := hp6.blk hb3
    have hP6 := hP5.trans hp6
    cases hdl : dateL (d.drop p) with
    | some pr =>
      obtain ⟨y, m⟩ := pr
      rw [hdl] at hdat hR
      obtain ⟨rfl, rfl, rfl⟩ := hdat
      have hm : 1 <= m /\ p + m <= d.length := by
        unfold dateL at hdl
        split at hdl
        · rename_i h2
          have hlen := congrArg List.length h2
          rw [List.length_take, List.length_drop] at hlen
          have : m = 2 := by simp at hdl; omega
          simp at hlen; omega
        · split at hdl
          · cases hdl
          · rename_i h2
            split at hdl
            · have : m = 13 := by simp at hdl; omega
              rw [List.length_drop] at h2; omega
            · cases hdl
      refine ⟨_, _, _, rfl, Br.t rfl ⟨_, h6.at_, ?_⟩⟩
      refine h6.st_at (p' := p + m) (by omega) (by rw [wrap_in (by omega) (by omega)]; omega) fun w7 h7 hf7 => ?_
      have hb7 := hf7.blk hb6 (by omega)
      exact outB (w := w) (t5 := ⟨3, (p : Int), bs y⟩) (by omega) (by omega) (by omega) h7 (pfr hP6 hf7) hb7 fun w14 h14 hf14 => hR _ _ ⟨hf14, rfl, by rw [show p + 1 + (m - 1) = p + m by omega]; exact h14⟩
    | none =>
      rw [hdl] at hdat hR
      subst hdat
      refine ⟨_, _, _, rfl, Br.f rfl ⟨_, cl hc6 0, _, cl hc6 1, _, cl hc6 2, (sign_c hL h6 ⟨0, (p : Int), ⟨#[]⟩⟩).mono ?_⟩⟩
      rintro e w7 ⟨hf7, hres⟩
      have hb7 := hf7.blk hb6 (by omega)
      cases hsg : signS (d.drop p) with
      | some y =>
        rw [hsg] at hres hR
        obtain ⟨rfl, h7, hyl⟩ := hres
        have hyl2 : 1 <= y.length := by
          unfold signS at hsg
          exact (signs_len y (List.mem_of_find?_eq_some hsg)).1
        refine ⟨_, _, _, _, rfl, ?_⟩
        exact outB (w := w) (t5 := ⟨4, (p : Int), bs y⟩) (by omega) (by omega) (by omega) h7 (pfr hP6 hf7) hb7 fun w14 h14 hf14 => hR _ _ ⟨hf14, rfl, by rw [show p + 1 + (y.length - 1) = p + y.length by omega]; exact h14⟩
      | none =>
        rw [hsg] at hres hR
        obtain ⟨⟨t, rfl⟩, h7⟩ := hres
        refine ⟨_, _, _, _, rfl, ?_⟩
        exact outB (w := w) (t5 := t) (by omega) (by omega) (by omega) h7 (pfr hP6 hf7) hb7 fun w14 h14 hf14 => hR _ _ ⟨hf14, _, _, rfl, h14⟩
end Go.Proofs.YtjbfehippchniaaGreatDoor

/- Lex: the next token, as the scanner takes it, is the next one of those that the source has. The signs: what the library's tables of letters and of bytes lay. -/
set_option maxRecDepth 100000
set_option linter.unusedVariables false
set_option linter.unusedSimpArgs false
namespace Go.Proofs.YtjbfehippchniaaGreatDoor
open Go.Sh Go.Sh.Lx Go.RowKit
variable {w0 w w' : World} {b p : Nat} {d : List UInt8} {l g : Bool} {bad : Int}
theorem step_blk {x : UInt8} (h : blkB x = true) (r : List UInt8) (line : Bool) : stepS x r line = .go 0 := by
  unfold stepS; rw [if_neg (by rw [(blk_isB h).2]; simp), if_pos h]
theorem lexS_blk : ∀ (r : List UInt8) (p : Nat) (line : Bool), lexS r p line = lexS (r.drop (blkN r)) (p + blkN r) line
  | [], p, line => rfl
  | x :: r, p, line => by
    by_cases h : blkB x = true
    · have e1 : blkN (x :: r) = blkN r + 1 := by unfold blkN; rw [List.takeWhile_cons, if_pos h]; rfl
      rw [lexS_go (step_blk h r line), List.drop_zero, lexS_blk r, e1, List.drop_succ_cons]
      congr 1; omega
    · have e1 : blkN (x :: r) = 0 := by unfold blkN; rw [List.takeWhile_cons, if_neg h]; rfl
      rw [e1]; rfl
theorem step_eol {x : UInt8} (h : nlB x = true) (r : List UInt8) (line : Bool) : stepS x r line = .eol := by unfold stepS; rw [if_pos h]
theorem step_com {x : UInt8} {r : List UInt8} {line : Bool} (h1 : nlB x = false) (h2 : blkB x = false) (h3 : (ampB (x :: r) || (decide (x.toNat = 42) && !line)) = true) : stepS x r line = match badAt (lineOf (x :: r)) with
    | some i => .bad i
    | none => .go ((lineOf (x :: r)).length - 1) := by
  unfold stepS; rw [if_neg (by rw [h1]; simp), if_neg (by rw [h2]; simp), if_pos h3]
  cases badAt (lineOf (x :: r)) <;> rfl
theorem step_semi {x : UInt8} {r : List UInt8} {line : Bool} (h1 : nlB x = false) (h2 : blkB x = false) (h3 : (ampB (x :: r) || (decide (x.toNat = 42) && !line)) = false) (h4 : (decide (x.toNat = 59) && goesB r) = true) : stepS x r line = match badAt (lineOf r) with
    | some i => .bad (i + 1)
    | none => .go (goN r) := by
  unfold stepS; rw [if_neg (by rw [h1]; simp), if_neg (by rw [h2]; simp), if_neg (by rw [h3]; simp), if_pos h4]
  cases badAt (lineOf r) <;> rfl
theorem step_tok {x : UInt8} {r : List UInt8} {line : Bool} (h1 : nlB x = false) (h2 : blkB x = false) (h3 : (ampB (x :: r) || (decide (x.toNat = 42) && !line)) = false) (h4 : (decide (x.toNat = 59) && goesB r) = false) : stepS x r line = tokS x r := by
  unfold stepS; rw [if_neg (by rw [h1]; simp), if_neg (by rw [h2]; simp), if_neg (by rw [h3]; simp), if_neg (by rw [h4]; simp)]
theorem tok_semi {x : UInt8} (h : x.toNat = 59) (r : List UInt8) : tokS x r = .bad 0 := by
  have e : x = 59 := UInt8.toNat_inj.1 h
  subst e
  have h1 : dateL (59 :: r) = none := by
    unfold dateL
    rw [if_neg, if_pos]
    · exact .inr (.inl (by intro h; cases r <;> simp at h))
    · intro h; cases r <;> simp at h
  have h2 : signS (59 :: r) = none := by
    unfold signS
    rw [List.find?_eq_none]
    intro w hw
    have hall : ∀ w ∈ signsS, w.head? ≠ none /\ w.head? ≠ some (capU 59) := by decide
    have h3 := hall w hw
    cases w with
    | nil => exact absurd rfl h3.1
    | cons c t =>
      simp only [List.length_cons, List.take_succ_cons, List.map_cons, decide_eq_true_eq, List.cons.injEq, not_and]
      intro h9; exact absurd (by rw [h9]; rfl) h3.2
  unfold tokS
  rw [if_neg (by decide), if_neg (by decide), if_neg (by decide), h1, h2]
def badI : Option Nat -> Int
  | none => -1
  | some i => (i : Int)
def Nxt (w0 w : World) (b : Nat) (d : List UInt8) (p : Nat) (l : Bool) (e : Ending) (w' : World) : Prop :=
  ∃ p' l' bad', Sc w0 w' b d p' l' l' bad' /\ Fr (· = b) w w' /\
    ((∃ t, e = retE t true /\ bad' = -1 /\ lexS (d.drop p) p l = (t :: (lexS (d.drop p') p' l').1, (lexS (d.drop p') p' l').2)) ∨
     (∃ t, e = retE t false /\ (lexS (d.drop p) p l).1 = [] /\ bad' = badI (lexS (d.drop p) p l).2))
section
variable {p2 : Nat} {R : Rt} {J : Unit -> World -> Prop} {w1 : World} {r2 : Nat}
structure Mid (w0 w : World) (b : Nat) (d : List UInt8) (p : Nat) (l : Bool) (r2 : Nat) (w1 : World) (p1 : Nat) (l1 : Bool) : Prop where
  sc : Sc w0 w1 b d p1 l1 l1 (-1)
  fr : Fr (· = b) w w1
  tok : TokB w1 r2 zeroT
  same : lexS (d.drop p) p l = lexS (d.drop p1) p1 l1
  old : w.heap.size <= r2
  base : w0.heap.size <= w.heap.size
  ne : b ≠ r2
theorem Mid.pu {p1 : Nat} {l1 : Bool} (h : Mid w0 w b d p l r2 w1 p1 l1) {w2 : World} (hp : Pu w1 w2) : Mid w0 w b d p l r2 w2 p1 l1 :=
  ⟨h.sc.pu hp, frp h.fr hp, hp.blk h.tok, h.same, h.old, h.base, h.ne⟩
theorem Mid.step {p1 p3 : Nat} {l1 l3 : Bool} (h : Mid w0 w b d p l r2 w1 p1 l1) {w2 : World} (hs : Sc w0 w2 b d p3 l3 l3 (-1)) (hf : Fr (· = b) w1 w2) (he : lexS (d.drop p1) p1 l1 = lexS (d.drop p3) p3 l3) : Mid w0 w b d p l r2 w2 p3 l3 :=
  ⟨hs, frb h.fr hf, hf.blk h.tok (fun e => h.ne e.symm), h.same.trans he, h.old, h.base, h.ne⟩
theorem Mid.stop {p1 p3 : Nat} {l1 l3 : Bool} {bad : Int} (h : Mid w0 w b d p l r2 w1 p1 l1) {w2 : World} (hs : Sc w0 w2 b d p3 l3 l3 bad) (hf : Fr (· = b) w1 w2) (he : (lexS (d.drop p1) p1 l1).1 = []) (hb : bad = badI (lexS (d.drop p1) p1 l1).2)
    (hR : ∀ e w', Nxt w0 w b d p l e w' -> R e w') (t5 : Tok) : stA Tryz.prog 30 (⟨r2, 0, none⟩ : Addr) #[.int .i64 t5.kind, .int .i64 t5.at_, .string t5.text] w2 fun w' => ∃ n0 : Int, w'.cell? ((⟨r2, 0, none⟩ : Addr).add 0) = some (.int .i64 n0) /\ ∃ n1 : Int, w'.cell? ((⟨r2, 0, none⟩ : Addr).add 1) = some (.int .i64 n1) /\
      ∃ s2 : ByteArray, w'.cell? ((⟨r2, 0, none⟩ : Addr).add 2) = some (.string s2) /\ R (.returned (.tuple #[.agg #[.int .i64 n0, .int .i64 n1, .string s2], .bool false])) w' :=
  outB (w := w) (Nat.le_trans h.base h.old) h.old h.ne hs (frb h.fr hf) (hf.blk h.tok fun e => h.ne e.symm) fun w8 h8 hf8 => hR _ _ ⟨_, _, _, h8, hf8, .inr ⟨_, rfl, by rw [h.same]; exact he, by rw [h.same]; exact hb⟩⟩
theorem com_c {x : UInt8} {r : List UInt8} {p1 : Nat} {l1 : Bool} (h : Mid w0 w b d p l r2 w1 p1 l1) (hd : d.drop p1 = x :: r) (h1 : nlB x = false) (h2 : blkB x = false) (h3 : (ampB (x :: r) || (decide (x.toNat = 42) && !l1)) = true)
    (hR : ∀ e w', Nxt w0 w b d p l e w' -> R e w') (hJ : ∀ p3 l3 w2, p1 < p3 -> Mid w0 w b d p l r2 w2 p3 l3 -> J () w2) : nxCom R J (some ⟨b, 0, none⟩) (some ⟨r2, 0, none⟩) [] w1 := by
  have hst := step_com h1 h2 h3
  have hln : 1 <= lnN (x :: r) := by unfold lnN lineOf; rw [List.takeWhile_cons, h1]; simp
  refine (comment_c h.sc).mono ?_
  rintro e w2 ⟨hf, hres⟩
  rw [hd] at hres
  cases hb : badAt (lineOf (x :: r)) with
  | some i =>
    rw [hb] at hres hst
    obtain ⟨rfl, hs⟩ := hres
    have hL := lexS_bad hst p1
    refine ⟨_, rfl, Br.t rfl (h.stop hs hf (by rw [hd, hL]) (by rw [hd, hL]; rfl) hR zeroT)⟩
  | none =>
    rw [hb] at hres hst
    obtain ⟨rfl, hs⟩ := hres
    have hL := lexS_go hst p1
    have hln2 : (lineOf (x :: r)).length = lnN (x :: r) := rfl
    rw [hln2] at hL
    refine ⟨_, rfl, Br.f rfl (hJ _ _ _ (by omega) (h.step hs hf ?_))⟩
    have e : r.drop (lnN (x :: r) - 1) = (x :: r).drop (lnN (x :: r)) := by
      obtain ⟨m, hm⟩ : ∃ m, lnN (x :: r) = m + 1 := ⟨lnN (x :: r) - 1, by omega⟩
      rw [hm]; rfl
    rw [← List.drop_drop, hd, hL, e]
    congr 1; omega
theorem semi_c (hL : Laid w0) {x : UInt8} {r : List UInt8} {p1 : Nat} {l1 : Bool} (h : Mid w0 w b d p l r2 w1 p1 l1) (hd : d.drop p1 = x :: r) (h1 : nlB x = false) (h2 : blkB x = false) (h3 : (ampB (x :: r) || (decide (x.toNat = 42) && !l1)) = false)
    (hR : ∀ e w', Nxt w0 w b d p l e w' -> R e w') (hJ : ∀ p3 l3 w2, p1 < p3 -> Mid w0 w b d p l r2 w2 p3 l3 -> J () w2) : nxSemi R J (some ⟨b, 0, none⟩) (some ⟨r2, 0, none⟩) [] w1 := by
  have hlim := h.sc.lim
  have hle := h.sc.le
  have hgx : d[p1]? = some x := by have := congrArg (·[0]?) hd; simpa [get_drop] using this
  have hr : d.drop (p1 + 1) = r := by rw [← List.drop_drop, hd]; rfl
  refine ⟨_, h.sc.s, _, h.sc.at_, x, by omega, by rw [toNat_i]; exact bs_get hgx, Br.of (fun q => ?_) (fun q => ?_)⟩
  · have hx : x.toNat = 59 := by have := btrue q; omega
    refine (continues_c h.sc hd).mono ?_
    rintro e w2 ⟨hf, hres⟩
    by_cases hg : goesB r = false
    · rw [if_pos hg] at hres
      obtain ⟨rfl, hs⟩ := hres
      have hst := step_tok (line := l1) h1 h2 h3 (by rw [hg]; simp)
      rw [tok_semi hx] at hst
      have hLx := lexS_bad hst p1
      refine ⟨_, _, rfl, Br.t rfl ⟨_, hs.at_, hs.st_bd fun w3 hs3 hf3 => Br.t rfl (h.stop hs3 (frb hf hf3) (by rw [hd, hLx]) (by rw [hd, hLx]; rfl) hR zeroT)⟩⟩
    · rw [if_neg hg] at hres
      have hg : goesB r = true := by simpa using hg
      have hst := step_semi (line := l1) h1 h2 h3 (by rw [hg]; simp [hx])
      cases hb : badAt (lineOf r) with
      | some i =>
        rw [hb] at hres hst
        obtain ⟨p3, rfl, hs⟩ := hres
        have hLx := lexS_bad hst p1
        refine ⟨_, _, rfl, Br.f rfl (Br.f rfl (Br.t rfl (h.stop hs hf (by rw [hd, hLx]) (by rw [hd, hLx]; show ((p1 + 1 + i : Nat) : Int) = ((p1 + (i + 1) : Nat) : Int); omega) hR zeroT)))⟩
      | none =>
        rw [hb] at hres hst
        obtain ⟨rfl, hs⟩ := hres
        have hLx := lexS_go hst p1
        refine ⟨_, _, rfl, Br.f rfl (Br.f rfl (Br.f rfl (hJ _ _ _ (by omega) (h.step hs hf ?_))))⟩
        rw [hd, hLx, ← hr, List.drop_drop]
  · have hx : ¬ x.toNat = 59 := by have := bfalse q; omega
    have hst := step_tok (line := l1) h1 h2 h3 (by simp [hx])
    refine h.sc.st_ln fun w2 hs2 hf2 => hs2.st_bg fun w3 hs3 hf3 => (token_c hL hs3 hd).mono ?_
    rintro e w4 ⟨hf4, hres⟩
    have hf := frb (frb hf2 hf3) hf4
    cases ht : tokS x r with
    | go m => rw [ht] at hres; exact hres.elim
    | eol => rw [ht] at hres; exact hres.elim
    | tok k t m =>
      rw [ht] at hres hst
      obtain ⟨rfl, hs4⟩ := hres
      have hLx := lexS_tok hst p1
      refine ⟨_, _, _, _, rfl, ?_⟩
      refine outB (w := w) (t5 := ⟨k, (p1 : Int), bs t⟩) (Nat.le_trans h.base h.old) h.old h.ne hs4 (frb h.fr hf) (hf.blk h.tok fun e => h.ne e.symm) fun w8 h8 hf8 => hR _ _ ⟨_, _, _, h8, hf8, .inl ⟨_, rfl, rfl, ?_⟩⟩
      rw [h.same, hd, hLx, ← hr, List.drop_drop]
    | bad i =>
      rw [ht] at hres hst
      obtain ⟨t, p3, rfl, hs4⟩ := hres
      have hLx := lexS_bad hst p1
      refine ⟨_, _, _, _, rfl, ?_⟩
      exact h.stop hs4 hf (by rw [hd, hLx]) (by rw [hd, hLx]; rfl) hR t
theorem next_c (hL : Laid w0) (h : Sc w0 w b d p l l (-1)) : Calls Tryz.prog 150 #[.pointer (some ⟨b, 0, none⟩)] w (Nxt w0 w b d p l) := by
  have hlim := h.lim
  have hbl := blk_lt h.blk
  have hsi := h.since.size
  refine calls_by (F150_calls _ w) fun R hR => alB fun w1 hp1 hb1 => ?_
  have hr1 := blk_lt hb1
  have h0 : Mid w0 w b d p l w.heap.size w1 p l := ⟨h.pu hp1, Fr.pu hp1, hb1, rfl, Nat.le_refl _, hsi, by omega⟩
  refine loopDown (d.length + 1 - p) (fun n _ w' => ∃ p1 l1, n + p1 = d.length + 1 /\ Mid w0 w b d p l w.heap.size w' p1 l1) ⟨p, l, by have := h.le; omega, h0⟩ ?_
  rintro n J _ w2 ⟨p1, l1, hn, hm⟩ hJ
  have hJ : ∀ p3 l3 w3, p1 < p3 -> Mid w0 w b d p l w.heap.size w3 p3 l3 -> J () w3 := fun p3 l3 w3 hlt hm3 => hJ (d.length + 1 - p3) _ _ (by have := hm3.sc.le; omega) ⟨p3, l3, by have := hm3.sc.le; omega, hm3⟩
  refine (skip_c hm.sc).mono ?_
  rintro e w3 ⟨rfl, hs3, hf3⟩
  obtain ⟨p3, hp3⟩ : ∃ p3, p3 = p1 + blkN (d.drop p1) := ⟨_, rfl⟩
  rw [← hp3] at hs3
  have hm3 : Mid w0 w b d p l w.heap.size w3 p3 l1 := hm.step hs3 hf3 (by rw [lexS_blk (d.drop p1), List.drop_drop, ← hp3])
  have hle3 := hs3.le
  have hnb : ∀ x, d[p3]? = some x -> blkB x = false := fun x hx => tw_end (l := d.drop p1) (by rw [get_drop]; show d[p1 + blkN (d.drop p1)]? = some x; rw [← hp3]; exact hx)
  refine ⟨rfl, dwE_intro fun w4 hp4 _ => ?_⟩
  have hm4 := hm3.pu hp4
  have hs4 := hm4.sc
  -- the end of a line or of the source
  have fin : (p3 = d.length ∨ ∃ x, d[p3]? = some x /\ nlB x = true) -> F150_1 R J (some ⟨b, 0, none⟩) (some ⟨w.heap.size, 0, none⟩) true [] w4 := fun hend => by
    refine (end_c hs4).mono ?_
    rintro e w5 ⟨hf5, hres⟩
    have post : ∀ (k : Bool) (p5 : Nat), e = retE (if l1 then endT p3 else zeroT) k -> Sc w0 w5 b d p5 false false (-1) -> (k = true -> l1 = true -> lexS (d.drop p3) p3 l1 = (endT p3 :: (lexS (d.drop p5) p5 false).1, (lexS (d.drop p5) p5 false).2)) -> (k = true -> l1 = false -> lexS (d.drop p3) p3 l1 = ([], none)) ->
        (k = false -> p1 < p5 /\ lexS (d.drop p3) p3 l1 = lexS (d.drop p5) p5 false) ->
        ∃ n45_0_0 : Int, ∃ n45_0_1 : Int, ∃ s45_0_2 : ByteArray, ∃ b45_1 : Bool, e = .returned (.tuple #[.agg #[.int .i64 n45_0_0, .int .i64 n45_0_1, .string s45_0_2], .bool b45_1]) /\
        alE (.cells #[.int .i64 0, .int .i64 0, .string (⟨#[]⟩ : ByteArray)] 30) w5 fun r4 w2 =>
        stA Tryz.prog 30 (⟨r4, 0, none⟩ : Addr) #[.int .i64 n45_0_0, .int .i64 n45_0_1, .string s45_0_2] w2 fun w3 =>
        Br b45_1 (
        dwE w3 fun w4 =>
        ∃ S1 : World -> Prop, S1 w4 /\
        ∃ n49_0 : Int, (∀ w', S1 w' -> w'.cell? ((⟨r4, 0, none⟩ : Addr).add 0) = some (.int .i64 n49_0)) /\
        ∃ n49_1 : Int, (∀ w', S1 w' -> w'.cell? ((⟨r4, 0, none⟩ : Addr).add 1) = some (.int .i64 n49_1)) /\
        ∃ s49_2 : ByteArray, (∀ w', S1 w' -> w'.cell? ((⟨r4, 0, none⟩ : Addr).add 2) = some (.string s49_2)) /\
        ∃ n51 : Int, (∀ w', S1 w' -> w'.cell? (⟨r4, 0, none⟩ : Addr) = some (.int .i64 n51)) /\
        stA Tryz.prog 30 (⟨w.heap.size, 0, none⟩ : Addr) #[.int .i64 n49_0, .int .i64 n49_1, .string s49_2] w4 fun w6 =>
        S1 w6 /\
        ∃ nR0_0 : Int, w6.cell? ((⟨w.heap.size, 0, none⟩ : Addr).add 0) = some (.int .i64 nR0_0) /\
        ∃ nR0_1 : Int, w6.cell? ((⟨w.heap.size, 0, none⟩ : Addr).add 1) = some (.int .i64 nR0_1) /\
        ∃ sR0_2 : ByteArray, w6.cell? ((⟨w.heap.size, 0, none⟩ : Addr).add 2) = some (.string sR0_2) /\
        R (.returned (.tuple #[.agg #[.int .i64 nR0_0, .int .i64 nR0_1, .string sR0_2], .bool (n51 == 5)])) w6) (
        J () w3) := fun k p5 he h5 hk1 hk0 hkf => by
      subst he
      obtain ⟨t, ht⟩ : ∃ t, t = (if l1 then endT p3 else zeroT) := ⟨_, rfl⟩
      rw [← ht]
      have hz5 := blk_lt (hf5.blk hm4.tok (fun e => hm4.ne e.symm))
      have hb5 := blk_lt h5.blk
      refine ⟨_, _, _, _, rfl, alB fun w6 hp6 hb6 => stA_fill hb6 s49.symm rfl rfl fun w7 hb7 hf7 _ => ?_⟩
      have hs6 := hp6.size
      have ht5 := hf5.blk hm4.tok (fun e => hm4.ne e.symm)
      have ht7 := hf7.blk (hp6.blk ht5) (by omega)
      have hP7 : Pu w5 w7 := Pu.andNew hp6 hf7 (fun i hi => by rw [show i = _ from hi]; omega)
      have h7 := h5.pu hP7
      have hb7 : TokB w7 w5.heap.size t := hb7
      refine Br.of (fun q => dwE_intro fun w8 hp8 _ => ?_) (fun q => ?_)
      · have h8 := h7.pu hp8
        have ht8 := hp8.blk ht7
        have hb8 : TokB w8 w5.heap.size t := hp8.blk hb7
        have hz8 := blk_lt hb8
        refine ⟨fun w' => TokB w' w5.heap.size t, hb8, _, fun w' h' => cl h' 0, _, fun w' h' => cl h' 1, _, fun w' h' => cl h' 2, t.kind, fun w' h' => cl0 h', ?_⟩
        refine stA_fill ht8 s49.symm rfl rfl fun w9 hb9 hf9 _ => ⟨hf9.blk hb8 (by omega), _, cl hb9 0, _, cl hb9 1, _, cl hb9 2, ?_⟩
        have h9 := h8.fr hf9 hm4.ne (fun i hi => by rw [show i = _ from hi]; exact hsi)
        have hfr : Fr (· = b) w w9 := (frp (frb hm4.fr hf5) (hP7.trans hp8)).trans hf9 fun i hi hlt => by rw [show i = _ from hi] at hlt; omega
        cases hl1 : l1 with
        | true =>
          have et : t = endT p3 := by rw [ht, hl1]; rfl
          subst et
          exact hR _ _ ⟨_, _, _, h9, hfr, .inl ⟨endT p3, rfl, rfl, by rw [hm4.same]; exact hk1 q hl1⟩⟩
        | false =>
          have et : t = zeroT := by rw [ht, hl1]; rfl
          subst et
          exact hR _ _ ⟨_, _, _, h9, hfr, .inr ⟨zeroT, rfl, by rw [hm4.same, hk0 q hl1], by rw [hm4.same, hk0 q hl1]; rfl⟩⟩
      · obtain ⟨hlt, hsame⟩ := hkf q
        exact hJ _ _ _ hlt (hm4.step h7 (frp hf5 hP7) hsame)
    by_cases hpe : p3 = d.length
    · rw [if_pos hpe] at hres
      obtain ⟨he, h5⟩ := hres
      have hnil : d.drop p3 = [] := List.drop_eq_nil_of_le (by omega)
      exact post true p3 he h5 (fun _ hl => by rw [hnil, lexS_nil, lexS_nil, hl]; rfl) (fun _ hl => by rw [hnil, lexS_nil, hl]; rfl) (fun h9 => by cases h9)
    · rw [if_neg hpe] at hres
      obtain ⟨he, h5⟩ := hres
      obtain ⟨x, hx, hnl⟩ := hend.resolve_left hpe
      have hd3 : d.drop p3 = x :: d.drop (p3 + 1) := drop_at hx
      have hLx := lexS_eol (step_eol hnl (d.drop (p3 + 1)) l1) p3
      refine post l1 (p3 + 1) he h5 (fun hk hl => by rw [hd3, hLx, hl]; rfl) (fun hk hl => by rw [hk] at hl; cases hl) (fun hk => ⟨by omega, by rw [hd3, hLx, hk]; rfl⟩)
  -- what is behind the comment's star
  have pre : ∀ {x : UInt8} {r : List UInt8} {w5 : World}, Pu w4 w5 -> d.drop p3 = x :: r -> nlB x = false -> blkB x = false -> (decide (x.toNat = 42) && !l1) = false -> nxPre R J (some ⟨b, 0, none⟩) (some ⟨w.heap.size, 0, none⟩) [] w5 := fun {x r w5} hp5 hd3 h1 h2 h3 => dwE_intro fun w6 hp6 _ => by
    have hm6 := (hm4.pu hp5).pu hp6
    refine ⟨_, hm6.sc.s, _, hm6.sc.at_, Nat.le_refl _, by omega, by rw [toNat_i, bs_size]; exact hle3, ?_⟩
    rw [toNat_i, extract_drop, hd3]
    refine (amp_c _ w6).mono ?_
    rintro e w7 ⟨rfl, rfl⟩
    refine ⟨_, rfl, Br.of (fun q => com_c hm6 hd3 h1 h2 (by rw [q]; rfl) hR fun p5 l5 w8 hlt => hJ p5 l5 w8 (by omega)) (fun q => dwE_intro fun w8 hp8 _ => semi_c hL (hm6.pu hp8) hd3 h1 h2 (by rw [q, h3]; rfl) hR fun p5 l5 w8 hlt => hJ p5 l5 w8 (by omega))⟩
  have rest : ∀ {x : UInt8}, d[p3]? = some x -> nlB x = false -> F150_1 R J (some ⟨b, 0, none⟩) (some ⟨w.heap.size, 0, none⟩) false [] w4 := fun {x} hx h1 => by
    have hd3 : d.drop p3 = x :: d.drop (p3 + 1) := drop_at hx
    have h2 := hnb x hx
    refine Br.f rfl (dwE_intro fun w5 hp5 _ => ?_)
    have hm5 := hm4.pu hp5
    refine ⟨_, hm5.sc.s, _, hm5.sc.at_, x, by omega, by rw [toNat_i]; exact bs_get hx, Br.of (fun q => ?_) (fun q => ?_)⟩
    · have hx42 : x.toNat = 42 := by have := btrue q; omega
      refine ⟨_, hm5.sc.bg, Br.of (fun q1 => Br.t q1 ?_) (fun q1 => pre hp5 hd3 h1 h2 (by rw [q1]; simp))⟩
      exact com_c hm5 hd3 h1 h2 (by rw [q1]; simp [hx42]) hR fun p5 l5 w8 hlt => hJ p5 l5 w8 (by omega)
    · have hx42 : ¬ x.toNat = 42 := by have := bfalse q; omega
      exact pre hp5 hd3 h1 h2 (by simp [hx42])
  refine ⟨_, hs4.at_, _, hs4.s, Br.of (fun q => fin (.inl (by have := btrue q; rw [bs_size_i] at this; omega))) (fun q => ?_)⟩
  have q := bfalse q
  rw [bs_size_i] at q
  obtain ⟨x, hx⟩ := at_k (l := d) (k := p3) (by omega)
  refine ⟨_, hs4.s, _, hs4.at_, x, by omega, by rw [toNat_i]; exact bs_get hx, ?_⟩
  have e10 : (((x.toNat : Nat) : Int) == 10) = nlB x := by rw [beq_dec]; unfold nlB; exact dec_eq (by omega)
  rw [e10]
  cases hnl : nlB x with
  | true => exact fin (.inr ⟨x, hx, hnl⟩)
  | false => exact rest hx hnl
end
end Go.Proofs.YtjbfehippchniaaGreatDoor

/- Lex: the iterator over the scanner's tokens, and what collects them. The signs: what the library's tables of letters and of bytes lay. -/
set_option maxRecDepth 100000
set_option linter.unusedVariables false
set_option linter.unusedSimpArgs false
namespace Go.Proofs.YtjbfehippchniaaGreatDoor
open Go.Sh Go.Sh.Lx Go.RowKit Go.Shelf
attribute [local go_sem] Oper.semAt_some
def leftN (d : List UInt8) (b : Nat) (wr : World) : Nat := match wr.cell? ((⟨b, 0, none⟩ : Addr).add 1), wr.cell? ((⟨b, 0, none⟩ : Addr).add 258) with
  | some (.int _ n), some (.bool l) => (lexS (d.drop n.toNat) n.toNat l).1.length
  | _, _ => 0
theorem leftN_eq {w0 w : World} {b p : Nat} {d : List UInt8} {l g : Bool} {bad : Int} (h : Sc w0 w b d p l g bad) : leftN d b w = (lexS (d.drop p) p l).1.length := by
  unfold leftN; rw [h.at_, h.ln]; simp only [toNat_i]
theorem Sc.below {w0 w w' : World} {b p n₀ : Nat} {d : List UInt8} {l g : Bool} {bad : Int} (h : Sc w0 w b d p l g bad) (hb : Below n₀ w w') (hbn : b < n₀) : Sc w0 w' b d p l g bad :=
  ⟨Below.trans h.since (hb.mono (by have := h.new; omega)), h.new, by rw [hb.block b hbn]; exact h.blk, h.le, h.lim⟩
def TokS (w0 : World) (b : Nat) (d : List UInt8) (xs : List Tok) (W : World) : Prop := xs = (lexS d 0 false).1 /\ ∃ p l, Sc w0 W b d p l l (badI (lexS d 0 false).2)
set_option maxHeartbeats 2000000 in
theorem all1_own {w0 w : World} {b : Nat} {d : List UInt8} (n : Nat) (hn : 1 <= n) (hL : Laid w0) (h : Sc w0 w b d 0 false false (-1)) (c n₀ : Nat) (hc : w.cell? ⟨c, 0, none⟩ = some (.pointer (some ⟨b, 0, none⟩))) (hcn : c < n₀) (hbn : b < n₀) (hcb : c ≠ b) (hn₀ : n₀ <= w.heap.size) :
    SeqOwn Fence.wide n Tryz.prog 149 #[.pointer (some ⟨c, 0, none⟩)] (fun t : Tok => #[.agg #[.int .i64 t.kind, .int .i64 t.at_, .string t.text]]) (· = b) n₀ (TokS w0 b d) ((lexS d 0 false).1.length + 1) w := fun l J W hW hJ hY h0 => by
  have hS0 : Sc w0 W b d 0 false false (-1) := ⟨Below.trans h.since (hW.mono (by have := h.new; omega)), h.new, by rw [hW.block b hbn]; exact h.blk, h.le, h.lim⟩
  have hcW : W.cell? ⟨c, 0, none⟩ = some (.pointer (some ⟨b, 0, none⟩)) := (hW.cell (p := ⟨c, 0, none⟩) hcn).trans hc
  refine callsIn_of_wp Tryz.func149 rfl trivial ?_ rfl
  simp only [Tryz.ntmps149, List.size_toArray, List.length_cons, List.length_nil, Nat.reduceAdd, Nat.reduceSub, Array.replicate_succ, Array.replicate_zero, List.push_toArray, List.append_toArray, List.nil_append, List.cons_append]
  gi_wp2
  gi_loopw [] (fun wr => ∃ pre p ln, J pre wr /\ Sc w0 wr b d p ln ln (-1) /\ wr.cell? ⟨c, 0, none⟩ = some (.pointer (some ⟨b, 0, none⟩)) /\ n₀ <= wr.heap.size /\ (lexS d 0 false).1 = pre ++ (lexS (d.drop p) p ln).1 /\ (lexS d 0 false).2 = (lexS (d.drop p) p ln).2)
    (fun wr => leftN d b wr)
  case atStart => exact ⟨[], 0, false, h0, hS0, hcW, by have := hW.size; omega, rfl, rfl⟩
  case round =>
    obtain ⟨pre, p, ln, hJs, hs, hcr, hz, h1, h2⟩ := hrel
    gi_wp2
    refine ⟨trivial, callsIn_wide.2 ((next_c hL hs).mono ?_)⟩
    rintro e W2 ⟨p', l', bad', hs2, hf2, ⟨t, rfl, rfl, hlex⟩ | ⟨t, rfl, hl1, hl2⟩⟩
    · have hz2 := hs2.since.size
      have hJ3 : J pre (W2.alloc (.cells #[.int .i64 t.kind, .int .i64 t.at_, .string t.text] 30)) := hJ _ _ _ (hJ _ _ _ hJs hf2) (Fr.alloc _ _)
      have hs3 : Sc w0 (W2.alloc (.cells #[.int .i64 t.kind, .int .i64 t.at_, .string t.text] 30)) b d p' l' l' (-1) := hs2.pu (Pu.alloc _ _)
      have hlen : pre.length < (lexS d 0 false).1.length + 1 := by rw [h1, List.length_append]; omega
      have hc3 : (W2.alloc (.cells #[.int .i64 t.kind, .int .i64 t.at_, .string t.text] 30)).cell? ⟨c, 0, none⟩ = some (.pointer (some ⟨b, 0, none⟩)) := by
        have hcl := World.block_lt_of_cell? wr _ hcr
        have h9 : W2.heap[c]? = wr.heap[c]? := hf2.block c hcl hcb
        have h8 : W2.cell? ⟨c, 0, none⟩ = wr.cell? ⟨c, 0, none⟩ := by unfold World.cell?; dsimp only; rw [h9]
        exact (Pu.alloc W2 _).cell (h8.trans hcr)
      obtain ⟨fn, tmps, assign, body, hy, hR⟩ := hY pre t _ hJ3 hlen
      unfold retE
      gi_wp2
      refine hR.mono ?_
      rintro e W4 ⟨rfl, hJ4, hk4⟩
      gi_wp2
      have hs4 := hs3.below hk4 hbn
      refine ⟨⟨pre ++ [t], p', l', hJ4, hs4, (hk4.cell (p := ⟨c, 0, none⟩) hcn).trans hc3, Nat.le_trans (Nat.le_trans hz hf2.size) (Nat.le_trans (Pu.alloc W2 _).size hk4.size), by rw [h1, hlex, List.append_assoc]; rfl, by rw [h2, hlex]⟩, ?_⟩
      rw [leftN_eq hs4, leftN_eq hs, hlex]
      exact Nat.lt_succ_self _
    · unfold retE
      gi_wp2
      refine ⟨fun _ h => (by cases h), ?_⟩
      gi_wp2
      refine bodyPost_ret (results_none rfl _ _ _) rfl ?_
      have hJ2 : J pre (W2.alloc (.cells #[.int .i64 t.kind, .int .i64 t.at_, .string t.text] 30)) := hJ _ _ _ (hJ _ _ _ hJs hf2) (Fr.alloc _ _)
      exact ⟨⟨_, rfl⟩, pre, ⟨by rw [h1, hl1, List.append_nil], p', l', by rw [h2, ← hl2]; exact hs2.pu (Pu.alloc _ _)⟩, hJ2⟩
end Go.Proofs.YtjbfehippchniaaGreatDoor

/- Lex: what collects the scanner's tokens. The signs: what the library's tables of letters and of bytes lay. -/
set_option maxRecDepth 100000
set_option linter.unusedVariables false
set_option linter.unusedSimpArgs false
namespace Go.Proofs.YtjbfehippchniaaGreatDoor
open Go.Sh Go.Sh.Lx Go.RowKit Go.Shelf
attribute [local go_sem] Oper.semAt_some
def rowOf (l : List Tok) : List Value := l.flatMap tokV
theorem info49 : (Tryz.prog.info? 30).map (fun i => (i.zero, i.size, i.bytes)) = some (some (.agg #[.int .i64 0, .int .i64 0, .string ⟨#[]⟩]), 3, 32) := by kernel_rfl
theorem rowOf_len : ∀ l : List Tok, (rowOf l).length = l.length * 3
  | [] => rfl
  | t :: l => by
    have := rowOf_len l
    unfold rowOf at this ⊢
    rw [List.flatMap_cons, List.length_append, this]
    show 3 + l.length * 3 = (l.length + 1) * 3
    omega
set_option maxHeartbeats 2000000 in
theorem appendSeq_c {w : World} {b : Nat} {g : Nat} {lb : Array Value} (eg : ∀ args w, (callFunc g args).run Tryz.prog w = .ok (.enter g args) w) {S : List Tok -> World -> Prop} {N : Nat} (hN : N <= 100000) (hb : b < w.heap.size)
    (hS : ∀ xs A A', S xs A -> Fr (w.heap.size <= ·) A A' -> S xs A')
    (hseq : ∀ w1, w1 = w.alloc (.cells #[.slice none 0 0] 25) -> SeqOwn Fence.wide 3 Tryz.prog g lb (fun t : Tok => #[.agg #[.int .i64 t.kind, .int .i64 t.at_, .string t.text]]) (· = b) w.heap.size S N w1) :
    Calls Tryz.prog 148 #[.slice none 0 0, .func (.func g) #[] lb] w fun e W' => ∃ (s : SV) (xs : List Tok), e = .returned (.slice s.a s.len s.cap) /\ S xs W' /\ RowAt W' 30 3 s (rowOf xs) /\ Fr (· = b) w W' /\ ∀ k ∈ blkOf s, w.heap.size <= k := by
  obtain ⟨i0, hi, hz0, hz1, hz2⟩ := info_parts info49
  refine (callsIn_wide (n := 4)).1 ?_
  refine callsIn_of_wp_marks Tryz.func148 rfl trivial ?_ rfl
  simp only [Tryz.ntmps148, List.size_toArray, List.length_cons, List.length_nil, Nat.reduceAdd, Nat.reduceSub, Array.replicate_succ, Array.replicate_zero, List.push_toArray, List.append_toArray, List.nil_append, List.cons_append]
  gi_wp2
  obtain ⟨w1, hw1⟩ : ∃ w1, w1 = w.alloc (.cells #[.slice none 0 0] 25) := ⟨_, rfl⟩
  rw [← hw1]
  have hwz : w1.heap.size = w.heap.size + 1 := by rw [hw1]; simp
  refine wpIn_rangeFunc_state (F := Fence.wide) rfl (by omega) (gf := g) (lb := lb) rfl trivial eg (n₀ := w.heap.size) (B := (· = b)) (S := S) (N := N) (by omega) (fun i hi => by rw [show i = b from hi]; exact hb) (hseq w1 hw1) (fun _ => rfl)
    (fun pre W => ∃ s : SV, W.heap[w.heap.size]? = some (.cells #[.slice s.a s.len s.cap] 25) /\ RowAt W 30 3 s (rowOf pre) /\ (∀ k ∈ blkOf s, w.heap.size + 3 <= k) /\ Fr (· = b) w W) ?hI ?hS ?h0
    (fun x a' W => ∃ r5, w.heap.size + 3 <= r5 /\ TokB W r5 x /\ a' = { tmps := #[.slice none 0 0, .func (.func g) #[] lb, .pointer (some ⟨w.heap.size, 0, none⟩), undef, .slice none 0 0, .pointer (some ⟨r5, 0, none⟩), .func (.func g) #[] lb, .agg #[.int .i64 x.kind, .int .i64 x.at_, .string x.text], undef, undef, undef, undef, undef], defers := [] }) ?hAx ?assign ?body ?done
  case hI =>
    rintro pre A A' ⟨s, h1, h2, h4, h5⟩ hf
    refine ⟨s, hf.blk h1 ?_, h2.fr hf ?_, h4, h5.trans hf fun i hi hlt => ?_⟩
    · rintro (h | h | h) <;> omega
    · intro k hk
      have := h4 k hk
      rintro (h | h | h) <;> omega
    · rcases hi with h | h | h
      · exact h
      · omega
      · omega
  case hS => exact hS
  case h0 => exact ⟨⟨none, 0, 0⟩, by rw [hw1]; exact alloc_new w _, RowAt.nil _ _ _, by simp [blkOf], by rw [hw1]; exact Fr.alloc w _⟩
  case hAx =>
    rintro x a' A A' ⟨r5, h1, h2, h3⟩ hf
    exact ⟨r5, h1, hf.blk h2 (by omega), h3⟩
  case assign =>
    rintro l pre x W K ⟨s, h1, h2, h4, h5⟩ hsz hK
    gi_wp2
    exact hK _ _ (Pu.alloc W _) ⟨s, (Pu.alloc W _).blk h1, h2.pu (Pu.alloc W _), h4, frp h5 (Pu.alloc W _)⟩ ⟨W.heap.size, by omega, alloc_new W _, rfl⟩
  case body =>
    rintro l pre x a' W ⟨s, h1, h2, h4, h5⟩ ⟨r5, hr5, ht, rfl⟩ hlen hsz
    have hc1 : W.cell? ⟨w.heap.size, 0, none⟩ = some (.slice s.a s.len s.cap) := cl0 h1
    have hc2 : W.cell? ⟨r5, 0, none⟩ = some (.int .i64 x.kind) := cl0 ht
    have hc3 : W.cell? ⟨r5, 1, none⟩ = some (.int .i64 x.at_) := by rw [cell_blk ht]; rfl
    have hc4 : W.cell? ⟨r5, 2, none⟩ = some (.string x.text) := by rw [cell_blk ht]; rfl
    have hrl := h2.1
    have hpl : (rowOf pre).length = pre.length * 3 := rowOf_len pre
    have hsl : s.len = pre.length := by omega
    have hbytes : (s.len + 1) * (i0.bytes + 1) <= 140737488355328 := by rw [hz2, hsl]; omega
    clear hsl hpl hrl
    have hnc : ∀ (j : Nat) (u : Value), (tokV x)[j]? = some u -> (W.alloc (.cells (tokV x).toArray 30)).cell? ((⟨W.heap.size, 0, none⟩ : Addr).add j) = some u := fun j u hu => by
      rw [cl (alloc_new W (.cells (tokV x).toArray 30))]; simpa using hu
    have hone : ∀ u ∈ tokV x, u.oneCell' = true := by intro u hu; simp [tokV] at hu; rcases hu with rfl | rfl | rfl <;> rfl
    gi_wp2_with (gi_at_builtin; refine wpListIn_append_row _ rfl _ _ 25 rfl 30 i0 _ 3 Tryz.underlying25 hi hz0 hz1 rfl (by decide) s (rowOf pre) rfl (h2.pu (Pu.alloc W _)) ⟨W.heap.size, 0, none⟩ 1 1 (tokV x) rfl rfl hnc hone hbytes ?_; intro s' W' hr' hf' hb'; have hc1' : W'.cell? ⟨w.heap.size, 0, none⟩ = some (.slice s.a s.len s.cap) := cl0 (hf'.blk ((Pu.alloc W _).blk h1) (fun h => by have := h4 _ h; omega)); have hfz' : W'.frozen? ⟨w.heap.size, 0, none⟩ = false := frozen_blk (hf'.blk ((Pu.alloc W _).blk h1) (fun h => by have := h4 _ h; omega)) 0)
    have hb1 := hf'.blk ((Pu.alloc W (.cells #[.int .i64 x.kind, .int .i64 x.at_, .string x.text] 30)).blk h1) (fun h => by have := h4 _ h; omega)
    have hset := setCell_blk hb1 0 (.slice s'.a s'.len s'.cap)
    have hfs : Fr (· = w.heap.size) W' (W'.setCell ⟨w.heap.size, 0, none⟩ (.slice s'.a s'.len s'.cap)) := Fr.setCell W' ⟨w.heap.size, 0, none⟩ _
    have hfa : Fr (· ∈ blkOf s) W W' := (Fr.alloc W _ : Fr (· ∈ blkOf s) W _).trans hf' fun _ hi _ => hi
    have hall : Fr (fun i => i ∈ blkOf s ∨ i = w.heap.size) W (W'.setCell ⟨w.heap.size, 0, none⟩ (.slice s'.a s'.len s'.cap)) := (hfa.mono fun i hi _ => .inl hi).trans hfs fun i hi _ => .inr hi
    have hsz' : (W.alloc (.cells #[.int .i64 x.kind, .int .i64 x.at_, .string x.text] 30)).heap.size = W.heap.size + 1 := by simp
    have h4' : ∀ k ∈ blkOf s', w.heap.size + 3 <= k := fun k hk => by
      rcases hb' k hk with h | h
      · exact h4 k h
      · rw [hsz'] at h; omega
    refine ⟨⟨hall.size, fun k o hk ho hcl => hall.blk ho ?_⟩, ⟨hall.os, hall.tape, hall.output, hall.size, fun k hk => hall.block k (by omega) ?_⟩, s', ?_, ?_, h4', h5.trans hall fun i hi hlt => ?_⟩
    · rintro (h | h)
      · obtain ⟨_, rfl | ⟨g', cur, g3, g4, _⟩⟩ := h2
        · simp [blkOf] at h
        · simp [blkOf, g3] at h; subst h; rw [g4] at ho; cases ho; cases hcl
      · omega
    · rintro (h | h)
      · have := h4 k h; omega
      · omega
    · rw [hset]; rfl
    · have e : rowOf (pre ++ [x]) = rowOf pre ++ tokV x := by unfold rowOf; rw [List.flatMap_append]; simp
      rw [e]
      exact hr'.fr hfs fun k hk h => by have := h4' k hk; rw [show k = w.heap.size from h] at this; omega
    · rcases hi with h | h
      · have := h4 i h; omega
      · omega
  case done =>
    rintro D xs W hD hSx ⟨s, h1, h2, h4, h5⟩ hK
    have hc1 : W.cell? ⟨w.heap.size, 0, none⟩ = some (.slice s.a s.len s.cap) := cl0 h1
    gi_wp2
    refine ⟨by simp, .inl ⟨_, _, rfl, run_takeDeferred hK, ?_⟩⟩
    have hf := Fr.putObj W D (.deferred none)
    refine ⟨_, results_tmp rfl _ _ _, s, xs, rfl, hS _ _ _ hSx (hf.mono fun i hi _ => by rw [show i = D from hi]; omega), h2.fr hf fun k hk h => ?_, h5.trans hf fun i hi hlt => by rw [show i = D from hi] at hlt; omega, fun k hk => by have := h4 k hk; omega⟩
    have h8 := h2
    obtain ⟨_, rfl | ⟨g', cur, g3, g4, _⟩⟩ := h8
    · simp [blkOf] at hk
    · simp [blkOf, g3] at hk
      rw [← hk, show k = D from h] at g4; rw [g4] at hK; cases hK
end Go.Proofs.YtjbfehippchniaaGreatDoor
