import Derived.Test.YtecmfdfhpldmmaaGreatDoorTbOwC
import Derived.Test.YtecmfdfhpldmmaaGreatDoorTbPrB
import Derived.Test.YtecmfdfhpldmmaaGreatDoorTbPrC
/- Table: values that are read back, by both packages. No condition. -/
set_option maxRecDepth 100000
set_option linter.unusedVariables false
set_option linter.unusedSimpArgs false
namespace Go.Proofs.YtecmfdfhpldmmaaGreatDoor
open Go.Sh Go.RowKit
def readS (k : Int) (s : List UInt8) : Val := if k = 1 then ⟨1, if s = [84] then 1 else 0, ⟨#[]⟩⟩ else if k = 3 then ⟨3, (unstampS s).1, ⟨#[]⟩⟩ else if k = 4 then ⟨4, 0, bs (bare s)⟩ else ⟨2, valS s, ⟨#[]⟩⟩
def okS (k : Int) (s : List UInt8) : Bool := if k = 1 then decide (s = [84]) || decide (s = [70]) else if k = 2 then !(s.all (· == 32)) else if k = 3 then (unstampS s).2 else true
theorem readS_in (k : Int) (s : List UInt8) : In64 (readS k s).kind /\ In64 (readS k s).n := by
  have h1 := valS_in s
  have h2 := unstampS_in s
  unfold readS In64
  split
  · dsimp only
    split <;> omega
  · split
    · dsimp only; omega
    · split
      · dsimp only; omega
      · dsimp only; omega
theorem digN_snoc : ∀ {l : List UInt8} {a : Nat} {d : UInt8}, (∀ b ∈ l, digB b = true) -> digB d = true -> digN a (l ++ [d]) = min (10 * digN a l + (d.toNat - 48)) 1000000000000000
  | [], a, d, _, hd => by simp [digN, hd]
  | b :: l, a, d, hl, hd => by
    rw [List.cons_append, digN, hl b (by simp), if_pos rfl, digN_snoc (fun x hx => hl x (by simp [hx])) hd, digN, hl b (by simp), if_pos rfl]
theorem decN_digB (n : Nat) : ∀ b ∈ decN n, digB b = true := fun b hb => by
  have := decN_digit n b hb
  unfold digB; simp; omega
theorem dig_ofNat {n : Nat} (h : n < 10) : digB (UInt8.ofNat (48 + n)) = true /\ (UInt8.ofNat (48 + n)).toNat - 48 = n := by
  have e : (UInt8.ofNat (48 + n)).toNat = 48 + n := by simp; omega
  exact ⟨by unfold digB; simp only [e]; simp; omega, by omega⟩
theorem digN_dec : ∀ n : Nat, n <= 1000000000000000 -> digN 0 (decN n) = n := by
  intro n
  induction n using Nat.strongRecOn with
  | _ n ih =>
    intro hn
    by_cases h : n < 10
    · rw [decN_lt h]
      obtain ⟨h1, h2⟩ := dig_ofNat h
      rw [digN, h1, if_pos rfl, digN, h2]; omega
    · rw [decN_ge h]
      obtain ⟨h1, h2⟩ := dig_ofNat (n := n % 10) (by omega)
      rw [digN_snoc (decN_digB _) h1, h2, ih (n / 10) (by omega) (by omega)]; omega
theorem digN_zeros (l : List UInt8) : ∀ j : Nat, digN 0 (List.replicate j 48 ++ l) = digN 0 l
  | 0 => rfl
  | j + 1 => by
    rw [List.replicate_succ, List.cons_append, digN]
    rw [show digB 48 = true by decide, if_pos rfl]
    exact digN_zeros l j
theorem digN_pad (k n : Nat) (h : n <= 1000000000000000) : digN 0 (padN k n) = n := by unfold padN; rw [digN_zeros, digN_dec n h]
theorem padN_digB (k n : Nat) : ∀ b ∈ padN k n, digB b = true := fun b hb => by
  unfold padN at hb
  rcases List.mem_append.1 hb with h | h
  · rw [List.eq_of_mem_replicate h]; decide
  · exact decN_digB n b h
theorem dropWhile_blanks (l : List UInt8) : ∀ j : Nat, (List.replicate j 32 ++ l).dropWhile (· == 32) = l.dropWhile (· == 32)
  | 0 => rfl
  | j + 1 => by rw [List.replicate_succ, List.cons_append, List.dropWhile_cons]; simp only [beq_self_eq_true, if_true]; exact dropWhile_blanks l j
theorem valS_blanks (j : Nat) (l : List UInt8) : valS (List.replicate j 32 ++ l) = valS l := by unfold valS; rw [dropWhile_blanks]
theorem valS_dec {n : Int} (h : -1000000000000000 <= n /\ n <= 1000000000000000) : valS (decI n) = n := by
  unfold decI
  split
  · unfold valS
    rw [List.dropWhile_cons, show ((45 : UInt8) == 32) = false by decide]
    simp only [Bool.false_eq_true, if_false]
    rw [signN_cons, if_pos (by decide), digN_dec _ (by omega)]; omega
  · rw [valS_digits (List.all_eq_true.2 fun b hb => decN_digB _ b hb), digN_dec _ (by omega)]; omega
theorem unstamp_stamp {n : Int} (h : 0 <= n /\ n <= 3652059) : unstampS (stampB n) = (n, true) := by
  by_cases h0 : n = 0
  · rw [h0, stampB_zero]; unfold unstampS; rw [if_pos rfl]
  obtain ⟨k, rfl⟩ : ∃ k : Nat, n = (k : Int) := ⟨n.toNat, by omega⟩
  obtain ⟨y, m, d, hD, rfl⟩ := date_of (k := k) (by omega)
  rw [stampB_date hD]
  obtain ⟨a, b, c⟩ := date_pads hD
  have l4 := padN_len a.1
  have l2 := padN_len b.1
  have l2' := padN_len c.1
  have hall : (padN 4 y ++ padN 2 m ++ padN 2 d).all digB = true := List.all_eq_true.2 fun x hx => by
    rcases List.mem_append.1 hx with hx | hx
    · rcases List.mem_append.1 hx with hx | hx
      · exact padN_digB _ _ x hx
      · exact padN_digB _ _ x hx
    · exact padN_digB _ _ x hx
  have hne : ¬ (padN 4 y ++ padN 2 m ++ padN 2 d) = List.replicate 8 32 := fun e => by
    rw [e] at hall; revert hall; decide
  unfold unstampS
  rw [if_neg hne, if_neg (by rw [stamp_len8 hD]; simp), if_pos hall]
  have e1 : (padN 4 y ++ padN 2 m ++ padN 2 d).take 4 = padN 4 y := by rw [List.append_assoc, List.take_append_of_le_length (by omega), List.take_of_length_le (by omega)]
  have e2 : ((padN 4 y ++ padN 2 m ++ padN 2 d).drop 4).take 2 = padN 2 m := by
    rw [List.append_assoc, List.drop_append_of_le_length (by omega), List.drop_eq_nil_of_le (by omega), List.nil_append, List.take_append_of_le_length (by omega), List.take_of_length_le (by omega)]
  have e3 : (padN 4 y ++ padN 2 m ++ padN 2 d).drop 6 = padN 2 d := by
    rw [List.drop_append, List.drop_eq_nil_of_le (by rw [List.length_append]; omega), List.nil_append, List.length_append, l4, l2]; rfl
  rw [e1, e2, e3, digN_pad _ _ (by omega), digN_pad _ _ (by omega), digN_pad _ _ (by omega)]
  unfold dateS
  rw [if_pos hD, decide_eq_true hD]
theorem bare_blanks (l : List UInt8) : ∀ j : Nat, bare (l ++ List.replicate j 32) = bare l
  | 0 => by simp
  | j + 1 => by rw [List.replicate_succ', ← List.append_assoc, bare_snoc, if_pos rfl, bare_blanks l j]
theorem not_blank {j : Nat} {n : Int} : ((List.replicate j 32 ++ decI n).all (· == 32)) = false := by
  rw [List.all_append]
  have : (decI n).all (· == (32 : UInt8)) = false := by
    rw [List.all_eq_false]
    unfold decI
    split
    · exact ⟨45, by simp, by decide⟩
    · have hp := decN_pos n.natAbs
      obtain ⟨b, hb⟩ := at_k (l := decN n.natAbs) (k := 0) (by omega)
      have hm := List.mem_of_getElem? hb
      refine ⟨b, hm, ?_⟩
      have := decN_digit n.natAbs b hm
      intro h
      have : b = 32 := by simpa using h
      subst this
      revert this; simp at *
  rw [this, Bool.and_false]
theorem read_shown {f : Fld} {p : Int} {v : Val} (h : RightV f p v) (h0 : v.kind ≠ 0) : readS f.kind (shownS f v) = v /\ okS f.kind (shownS f v) = true := by
  cases h with
  | nil hv hn => rw [hv] at h0; exact absurd rfl h0
  | truth hk hw hv hn =>
    have e : shownS f v = [if v.n = 1 then 84 else 70] := by unfold shownS; rw [if_neg h0, if_pos hk]
    rw [e]; unfold readS okS; rw [if_pos hk, if_pos hk]
    rcases hn with hn | hn
    · rw [hn]; refine ⟨?_, by decide⟩; rw [hv, hn]; rfl
    · rw [hn]; refine ⟨?_, by decide⟩; rw [hv, hn]; rfl
  | num hk hw hv hn hl =>
    have e : shownS f v = List.replicate (f.width.toNat - (decI v.n).length) 32 ++ decI v.n := by unfold shownS; rw [if_neg h0, if_neg (by omega), if_neg (by omega), if_neg (by omega), if_neg (by omega)]
    rw [e]; unfold readS okS
    rw [if_neg (by omega), if_neg (by omega), if_neg (by omega), if_neg (by omega), if_pos hk, valS_blanks, valS_dec hn, not_blank]
    exact ⟨hv.symm, rfl⟩
  | date hk hw hv hn =>
    have e : shownS f v = stampB v.n := by unfold shownS; rw [if_neg h0, if_neg (by omega), if_pos hk]
    rw [e]; unfold readS okS
    rw [if_neg (by omega), if_pos hk, if_neg (by omega), if_neg (by omega), if_pos hk, unstamp_stamp hn]
    exact ⟨hv.symm, rfl⟩
  | text hk hw hv hl hb ht =>
    have e : shownS f v = textSh f v := by unfold shownS; rw [if_neg h0, if_neg (by omega), if_neg (by omega), if_pos hk]
    rw [e]; unfold readS okS textSh
    rw [if_neg (by omega), if_neg (by omega), if_pos hk, if_neg (by omega), if_neg (by omega), if_neg (by omega), bare_blanks, hb, list_bs]
    exact ⟨hv.symm, rfl⟩
  | memo hk hw hv hn =>
    have e : valS (shownS f v) = v.n := by
      unfold shownS
      rw [if_neg h0, if_neg (by omega), if_neg (by omega), if_neg (by omega)]
      by_cases hz : v.n = 0
      · rw [if_pos ⟨hk, hz⟩, hz, hw]; decide
      · rw [if_neg (by simp [hz]), valS_blanks, valS_dec (by omega)]
    unfold readS okS
    rw [if_neg (by omega), if_neg (by omega), if_neg (by omega), if_neg (by omega), if_neg (by omega), if_neg (by omega), e]
    exact ⟨hv.symm, rfl⟩
theorem one_eq (s : ByteArray) (c : UInt8) : (s.toList == (⟨#[c]⟩ : ByteArray).toList) = decide (s.data.toList = [c]) := by
  rw [toList_beq]
  exact dec_eq ⟨fun h => by rw [h], fun h => bytes_ext (by rw [h])⟩
theorem readTruth_c (s : ByteArray) (w : World) : Calls Tryz.prog 126 #[.string s] w fun e w' => e = .returned (.tuple #[valA (readS 1 s.data.toList), .bool (okS 1 s.data.toList)]) /\ Pu w w' := by
  refine F126_calls _ w _ (alB fun w1 hp1 hb1 => boxA rfl s25.symm rfl fun w2 hp2 hs2 hb2 => ?_)
  have hlt : w.heap.size < w1.heap.size := blk_lt hb1
  have b1 := hp2.blk hb1
  rw [one_eq, one_eq]
  unfold readS okS
  rw [if_pos rfl, if_pos rfl]
  refine Br.of (fun d => ?_) (fun d => ⟨_, cl hb2 0, _, cl hb2 1, _, cl hb2 2, Br.of (fun d1 => absurd d1 (by rw [d]; simp)) (fun d1 => stA_fill b1 s25.symm rfl rfl fun w3 hb3 hf3 hs3 => ⟨_, cl hb3 0, _, cl hb3 1, _, cl hb3 2, ?_, hp1.trans hp2 |>.andNew hf3 fun i hi => by omega⟩)⟩)
  · show st1 ((⟨w1.heap.size, 0, none⟩ : Addr).add 1) _ w2 _
    rw [add_def]
    refine st1_intro hb2 (by decide) fun w3 hw3 hb3 => ?_
    have hf3 : Fr (· = w1.heap.size) w2 w3 := by rw [hw3]; exact Fr.cell w2 _ _ _
    have b3 := hf3.blk b1 (show ¬ w.heap.size = w1.heap.size by omega)
    have hp3 : Pu w w3 := (hp1.trans hp2).andNew hf3 fun i hi => by omega
    refine ⟨_, cl hb3 0, _, cl hb3 1, _, cl hb3 2, Br.t d (stA_fill b3 s25.symm rfl rfl fun w4 hb4 hf4 hs4 => ⟨_, cl hb4 0, _, cl hb4 1, _, cl hb4 2, ?_, hp3.andNew hf4 fun i hi => by omega⟩)⟩
    rw [if_pos (dtrue d), d]; rfl
  · rw [if_neg (dfalse d), d]; simp
theorem trimB_nil (l : List UInt8) : (Lib.trimB l 32 = []) ↔ l.all (· == 32) = true := by
  unfold Lib.trimB Lib.trimLeftB Lib.trimRightB
  rw [dropWhile_nil, List.all_reverse, dropWhile_all, List.all_reverse]
theorem readNum_c (s : ByteArray) (hs : s.size <= 140737488355328) (w : World) : Calls Tryz.prog 128 #[.string s] w fun e w' => e = .returned (.tuple #[valA (readS 2 s.data.toList), .bool (okS 2 s.data.toList)]) /\ Pu w w' := by
  refine F128_calls _ w _ (alB fun w1 hp1 hb1 => (val_c s hs w1).mono ?_)
  rintro e w2 ⟨rfl, hp2⟩
  refine ⟨_, rfl, (Any.strings_Trim_one Tryz.lays160 s 32 (by decide) w2 (by omega)).mono ?_⟩
  rintro e w3 ⟨rfl, hw3⟩
  have hp3 : Pu w2 w3 := by
    rcases hw3 with h | h
    · rw [h]; exact Pu.refl _
    · rw [h]; exact Pu.drew _
  refine ⟨_, rfl, stA_fill ((hp2.trans hp3).blk hb1) s25.symm rfl rfl fun w4 hb3 hf3 hs3 => ⟨_, cl hb3 0, _, cl hb3 1, _, cl hb3 2, ?_, (hp1.trans (hp2.trans hp3)).andNew hf3 fun i hi => by omega⟩⟩
  rw [toList_nil]
  have e : decide ((ByteArray.mk (Lib.trimB s.data.toList 32).toArray).size = 0) = s.data.toList.all (· == 32) := by
    have h1 : ((ByteArray.mk (Lib.trimB s.data.toList 32).toArray).size = 0) ↔ s.data.toList.all (· == 32) = true := by
      rw [← trimB_nil]; simp [ByteArray.size]
    rw [Bool.eq_iff_iff, decide_eq_true_iff]; exact h1
  rw [e]; rfl
theorem readDate_c (s : ByteArray) (hs : s.size <= 140737488355328) (w : World) : Calls Tryz.prog 130 #[.string s] w fun e w' => e = .returned (.tuple #[valA (readS 3 s.data.toList), .bool (okS 3 s.data.toList)]) /\ Pu w w' := by
  refine F130_calls _ w _ (alB fun w1 hp1 hb1 => (unstamp_c s hs w1).mono ?_)
  rintro e w2 ⟨rfl, hp2⟩
  exact ⟨_, _, rfl, stA_fill (hp2.blk hb1) s25.symm rfl rfl fun w3 hb3 hf3 hs3 => ⟨_, cl hb3 0, _, cl hb3 1, _, cl hb3 2, rfl, (hp1.trans hp2).andNew hf3 fun i hi => by omega⟩⟩
theorem readText_c (s : ByteArray) (hs : s.size <= 140737488355328) (w : World) : Calls Tryz.prog 132 #[.string s] w fun e w' => e = .returned (.tuple #[valA (readS 4 s.data.toList), .bool (okS 4 s.data.toList)]) /\ Pu w w' := by
  refine F132_calls _ w _ (alB fun w1 hp1 hb1 => (trimRight_c s hs w1).mono ?_)
  rintro e w2 ⟨rfl, hp2⟩
  exact ⟨_, rfl, stA_fill (hp2.blk hb1) s25.symm rfl rfl fun w3 hb3 hf3 hs3 => ⟨_, cl hb3 0, _, cl hb3 1, _, cl hb3 2, rfl, (hp1.trans hp2).andNew hf3 fun i hi => by omega⟩⟩
theorem readMemo_c (s : ByteArray) (hs : s.size <= 140737488355328) (w : World) : Calls Tryz.prog 134 #[.string s] w fun e w' => e = .returned (.tuple #[valA (readS 5 s.data.toList), .bool (okS 5 s.data.toList)]) /\ Pu w w' := by
  refine F134_calls _ w _ (alB fun w1 hp1 hb1 => (val_c s hs w1).mono ?_)
  rintro e w2 ⟨rfl, hp2⟩
  exact ⟨_, rfl, stA_fill (hp2.blk hb1) s25.symm rfl rfl fun w3 hb3 hf3 hs3 => ⟨_, cl hb3 0, _, cl hb3 1, _, cl hb3 2, rfl, (hp1.trans hp2).andNew hf3 fun i hi => by omega⟩⟩
theorem reader_c {f : Fld} (hf : fieldB f = true) : ∃ K, kindOf5 f.kind = some K /\ hasBody Tryz.prog K.rd = true /\ ∀ (s : ByteArray), s.size <= 140737488355328 -> ∀ w, Calls Tryz.prog K.rd #[.string s] w fun e w' => e = .returned (.tuple #[valA (readS f.kind s.data.toList), .bool (okS f.kind s.data.toList)]) /\ Pu w w' := by
  rcases fld_kinds hf with ⟨e, _⟩ | ⟨e, _⟩ | ⟨e, _⟩ | ⟨e, _⟩ | ⟨e, _⟩
  · rw [e]; exact ⟨_, rfl, by kernel_rfl, fun s _ w => readTruth_c s w⟩
  · rw [e]; exact ⟨_, rfl, by kernel_rfl, readNum_c⟩
  · rw [e]; exact ⟨_, rfl, by kernel_rfl, readDate_c⟩
  · rw [e]; exact ⟨_, rfl, by kernel_rfl, readText_c⟩
  · rw [e]; exact ⟨_, rfl, by kernel_rfl, readMemo_c⟩
end Go.Proofs.YtecmfdfhpldmmaaGreatDoor

/- Table: rows that a conversion of a text has made. No condition. -/
set_option maxRecDepth 100000
set_option linter.unusedVariables false
set_option linter.unusedSimpArgs false
namespace Go.Proofs.YtecmfdfhpldmmaaGreatDoor
open Go.Sh Go.RowKit
def MRow (w0 w : World) (s : SV) (l : List UInt8) : Prop := ∃ (g : Nat) (cur : Array Value) (fz : Nat × Nat), s.a = some ⟨g, 0, none⟩ /\ w.heap[g]? = some (.cells cur 5 fz) /\ cur.size <= fz.1 /\ s.len = l.length /\ s.len <= s.cap /\ s.cap <= maxLen /\ cur.size = s.cap /\ cur.toList.take s.len = l.map u8V /\ w0.heap.size <= g
def ByRow (w0 w : World) (s : SV) (l : List UInt8) : Prop := MRow w0 w s l ∨ NewRow w0 w s l
theorem ByRow.pu {w0 w w' : World} {s : SV} {l : List UInt8} (h : ByRow w0 w s l) (hp : Pu w w') : ByRow w0 w' s l := by
  rcases h with ⟨g, cur, fz, h1, h2, h3⟩ | h
  · exact .inl ⟨g, cur, fz, h1, hp.blk h2, h3⟩
  · exact .inr (h.pu hp)
theorem ByRow.len {w0 w : World} {s : SV} {l : List UInt8} (h : ByRow w0 w s l) : s.len = l.length := by
  rcases h with ⟨g, cur, fz, h1, h2, h3, h4, _⟩ | h
  · exact h4
  · exact h.len
theorem MRow.cell {w0 w : World} {s : SV} {l : List UInt8} (h : MRow w0 w s l) {j : Nat} {b : UInt8} (hj : l[j]? = some b) : ∃ a, s.a = some a /\ w.cell? (a.add j) = some (u8V b) := by
  obtain ⟨g, cur, fz, h1, h2, h3, h4, h5, h6, h7, h8, _⟩ := h
  refine ⟨_, h1, ?_⟩
  rw [add_def, cell_blk h2, Nat.zero_add]
  have e : (cur.toList.take s.len)[j]? = some (u8V b) := by rw [h8, List.getElem?_map, hj]; rfl
  rw [List.getElem?_take] at e
  split at e
  · simpa using e
  · cases e
theorem ByRow.cell {w0 w : World} {s : SV} {l : List UInt8} (h : ByRow w0 w s l) {j : Nat} {b : UInt8} (hj : l[j]? = some b) : ∃ a, s.a = some a /\ w.cell? (a.add j) = some (u8V b) := by
  rcases h with h | h
  · exact h.cell hj
  · exact h.cell hj
theorem ByRow.low {w0 w1 w : World} {s : SV} {l : List UInt8} (h : ByRow w1 w s l) (hz : w0.heap.size <= w1.heap.size) : ByRow w0 w s l := by
  rcases h with ⟨g, cur, fz, h1, h2, h3, h4, h5, h6, h7, h8, h9⟩ | h
  · exact .inl ⟨g, cur, fz, h1, h2, h3, h4, h5, h6, h7, h8, Nat.le_trans hz h9⟩
  · exact .inr (h.low hz)
theorem MRow.push {w0 w : World} {s : SV} {l : List UInt8} (h : MRow w0 w s l) (hz : w0.heap.size <= w.heap.size) {r : Nat} {b : UInt8} {c : Array Value} (hr : w.heap[r]? = some (.cells c 5)) (hc : c[0]? = some (u8V b)) (hb : l.length <= 1000000) :
    ∃ (s' : SV) (w' : World), (Builtin.append_ #[37, 37] 37 #[.slice s.a s.len s.cap, .slice (some ⟨r, 0, none⟩) 1 1]).run Tryz.prog w = .ok (.slice s'.a s'.len s'.cap) w' /\ ByRow w0 w' s' (l ++ [b]) /\ Fr (· ∈ blkOf s) w w' := by
  have hcell := fun (j : Nat) (x : UInt8) (hj : l[j]? = some x) => h.cell hj
  obtain ⟨g, cur, fz, h1, h2, h3, h4, h5, h6, h7, h8, h9⟩ := h
  have hi := info5
  obtain ⟨i, i1, i2, i3, i4⟩ := info_parts hi
  have hnews : ∀ j u, [u8V b][j]? = some u -> w.cell? ((⟨r, 0, none⟩ : Addr).add j) = some u := fun j u hu => by
    cases j with
    | zero => simp at hu; subst hu; rw [add0, cell_blk hr]; exact hc
    | succ j => simp at hu
  have hgl : g < w.heap.size := blk_lt h2
  by_cases hroom : s.len + 1 <= s.cap
  · have hin : s.len < cur.size := by omega
    have hfro : w.frozen? ⟨g, s.len, none⟩ = false := by
      obtain ⟨lo, hi'⟩ := fz
      simp only [World.frozen?, h2, Bool.and_eq_false_iff, decide_eq_false_iff_not]
      left; simp only at h3; omega
    have hcl : w.cell? ⟨g, s.len, none⟩ = some cur[s.len] := by rw [cell_blk h2]; simp [hin]
    have hst : (storeCells ⟨g, s.len, none⟩ [u8V b] 0).run Tryz.prog w = .ok () (w.setCell ⟨g, s.len, none⟩ (u8V b)) := by
      simp only [storeCells, Sem.run_bind, add_def, Nat.add_zero]
      rw [run_store Tryz.prog w _ _ _ rfl, hcl]
      simp [hfro]
    have hf := run_firstCells_some (P := Tryz.prog) w i.size 1 ⟨r, 0, none⟩ 1 1 [u8V b] (by rw [i3]; rfl) hnews
    have hrun : (Builtin.append_ #[37, 37] 37 #[.slice s.a s.len s.cap, .slice (some ⟨r, 0, none⟩) 1 1]).run Tryz.prog w = .ok (.slice s.a (s.len + 1) s.cap) (w.setCell ⟨g, s.len, none⟩ (u8V b)) := by
      rw [h1]
      rw [i3] at hf
      simp [Builtin.append_, run_underlying u37, sizeOf, typeInfo, i1, i3, Builtin.lenOf, hroom, hf, Addr.add_lit, hst]
    refine ⟨⟨s.a, s.len + 1, s.cap⟩, _, hrun, .inl ⟨g, cur.setIfInBounds s.len (u8V b), fz, h1, setCell_blk h2 _ _, by rw [Array.size_setIfInBounds]; exact h3, by simp [h4], hroom, h6, by rw [Array.size_setIfInBounds]; exact h7, ?_, h9⟩, ?_⟩
    · rw [Array.toList_setIfInBounds, List.map_append, ← h8]
      apply List.ext_getElem?
      intro j
      show (List.take (s.len + 1) _)[j]? = _
      rw [List.getElem?_take]
      rcases Nat.lt_trichotomy j s.len with hj | hj | hj
      · rw [if_pos (by omega), List.getElem?_set_ne (by omega), List.getElem?_append_left (by rw [List.length_take, Array.length_toList]; omega), List.getElem?_take, if_pos hj]
      · subst hj
        rw [if_pos (by omega), List.getElem?_set_self (by rw [Array.length_toList]; exact hin), List.getElem?_append_right (by rw [List.length_take]; omega), List.length_take, Array.length_toList, show s.len - min s.len cur.size = 0 by omega]; rfl
      · rw [if_neg (by omega), List.getElem?_eq_none]
        rw [List.length_append, List.length_take, List.length_map, List.length_singleton]; omega
    · have := Fr.setCell w ⟨g, s.len, none⟩ (u8V b)
      exact ⟨this.os, this.tape, this.output, this.size, fun k hk hn => this.block k hk (fun e => hn (by simp [blkOf, h1, e]))⟩
  · have hlen : (l.map u8V).length = s.len * i.size := by rw [i3, List.length_map]; omega
    have holds : ∀ j u, (l.map u8V)[j]? = some u -> w.cell? ((⟨g, 0, none⟩ : Addr).add j) = some u := fun j u hu => by
      obtain ⟨x, hx, rfl⟩ : ∃ x, l[j]? = some x /\ u8V x = u := by simpa using hu
      obtain ⟨a, ha, hca⟩ := hcell j x hx
      rw [h1] at ha; cases ha; exact hca
    have hrun := run_append_grow (P := Tryz.prog) w 37 37 5 i (.int .u8 0) u37 i1 i2 ⟨g, 0, none⟩ s.len s.cap (l.map u8V) hlen holds ⟨r, 0, none⟩ 1 1 [u8V b] (by rw [i3]; rfl) hnews (by omega) (by omega) (growslice_fits (by omega) (by rw [i4]; omega))
    have hge := grownCap_ge w (s.len + 1) s.cap 5
    have hcm : grownCap w (s.len + 1) s.cap 5 <= maxLen := grownCap_le_maxLen w (s.len + 1) s.cap 5 (by unfold maxLen; omega)
    refine ⟨⟨some ⟨w.heap.size, 0, none⟩, s.len + 1, grownCap w (s.len + 1) s.cap 5⟩, _, by rw [h1]; exact hrun, .inr ⟨⟨by simp [h4], .inr ⟨w.heap.size, _, rfl, heap_alloc_new w.drew _, hge, hcm, ?_, ?_⟩⟩, fun k hk => by simp [blkOf] at hk; omega⟩, ?_⟩
    · simp only [Array.size_append, List.size_toArray, List.length_map, List.length_singleton, size_zeroCells]
      show l.length + 1 + (grownCap w (s.len + 1) s.cap 5 - (s.len + 1)) * 1 = _
      show l.length + 1 + (grownCap w (s.len + 1) s.cap 5 - (s.len + 1)) * 1 = grownCap w (s.len + 1) s.cap 5 * 1
      omega
    · simp only [Array.toList_append, List.append_assoc]
      rw [← List.append_assoc, List.map_append]
      have e : (List.map u8V l ++ [u8V b]).length = (s.len + 1) * 1 := by simp [h4]
      show List.take ((s.len + 1) * 1) _ = _
      rw [← e]
      exact List.take_left
    · exact (Fr.drew w).trans (Fr.alloc w.drew _) fun i hi _ => hi
theorem ByRow.push {w0 w : World} {s : SV} {l : List UInt8} (h : ByRow w0 w s l) (hp : Pu w0 w) {r : Nat} {b : UInt8} {c : Array Value} (hr : w.heap[r]? = some (.cells c 5)) (hc : c[0]? = some (u8V b)) (hb : l.length <= 1000000) :
    ∃ (s' : SV) (w' : World), (Builtin.append_ #[37, 37] 37 #[.slice s.a s.len s.cap, .slice (some ⟨r, 0, none⟩) 1 1]).run Tryz.prog w = .ok (.slice s'.a s'.len s'.cap) w' /\ ByRow w0 w' s' (l ++ [b]) /\ Pu w0 w' := by
  rcases h with h | h
  · obtain ⟨g, cur, fz, h1, _, _, _, _, _, _, _, h9⟩ := id h
    obtain ⟨s', w', e, h2, f⟩ := h.push hp.size hr hc hb
    exact ⟨s', w', e, h2, hp.andNew f fun i hi => by simp [blkOf, h1] at hi; omega⟩
  · obtain ⟨s', w', e, h2, f⟩ := h.one hp.size hr hc (by omega)
    exact ⟨s', w', e, .inr h2, hp.andNew f fun i hi => h.2 i hi⟩
end Go.Proofs.YtecmfdfhpldmmaaGreatDoor

/- Table: the reference's header and row. No condition. -/
set_option maxRecDepth 100000
set_option linter.unusedVariables false
set_option linter.unusedSimpArgs false
namespace Go.Proofs.YtecmfdfhpldmmaaGreatDoor
open Go.Sh Go.RowKit
theorem NewRow.cat {w1 w : World} {s m : SV} {l news : List UInt8} (h : NewRow w1 w s l) (hp : Pu w1 w) (hl : m.len = news.length) (hn : ∀ (j : Nat) (b : UInt8), news[j]? = some b -> ∃ a, m.a = some a /\ w.cell? (a.add j) = some (u8V b)) (hb : l.length + news.length <= 2000000) :
    ∃ (s' : SV) (w' : World), (Builtin.append_ #[37, 37] 37 #[.slice s.a s.len s.cap, .slice m.a m.len m.cap]).run Tryz.prog w = .ok (.slice s'.a s'.len s'.cap) w' /\ NewRow w1 w' s' (l ++ news) /\ Pu w1 w' := by
  obtain ⟨s', w', e, h2, f⟩ := h.app hp.size hl hn (by omega)
  exact ⟨s', w', e, h2, hp.andNew f fun i hi => h.2 i hi⟩
theorem box_cells {w : World} {r : Nat} {c : Array Value} {news : List UInt8} (hr : w.heap[r]? = some (.cells c 5)) (hc : c = (news.map u8V).toArray) : ∀ (j : Nat) (b : UInt8), news[j]? = some b -> ∃ a, (some (⟨r, 0, none⟩ : Addr)) = some a /\ w.cell? (a.add j) = some (u8V b) := fun j b hj => by
  refine ⟨_, rfl, ?_⟩
  rw [cl hr, hc]; simp [hj]
end Go.Proofs.YtecmfdfhpldmmaaGreatDoor

/- Table: the bytes of a table; the law on them. No condition. -/
set_option maxRecDepth 100000
set_option linter.unusedVariables false
set_option linter.unusedSimpArgs false
namespace Go.Proofs.YtecmfdfhpldmmaaGreatDoor
open Go.Sh Go.RowKit
noncomputable def bytesS (t : Tbl) : List UInt8 := headS t ++ t.recs.flatMap (rowS shownS t.fields) ++ [26]
noncomputable def bytesOut (t : Tbl) : List UInt8 := if validT t = 0 then bytesS t else []
structure Okay (t : Tbl) : Prop where
  page : pageB t.page = true
  vf : validF t.fields = 0
  ne : t.fields ≠ []
  all : t.fields.all fieldB = true
  n16 : t.fields.length <= 16
  w2 : wide t.fields <= 2000
  m300 : t.recs.length <= 300
  recs : ∀ x ∈ t.recs, RightR t.fields t.page x.v
theorem Okay.of {t : Tbl} (h : validT t = 0) : Okay t := by
  obtain ⟨hpg, hvf, h300, hfb⟩ := validT_ok h
  obtain ⟨h0, hall, _, h16, hw⟩ := validF_ok hvf
  exact ⟨hpg, hvf, h0, hall, h16, hw, h300, fun x hx => RightR.of hall (firstBad_all hfb x hx)⟩
theorem headS_le {t : Tbl} (h : Okay t) : (headS t).length = 13 + 16 * t.fields.length := by
  have : ∀ {l : List Fld}, l.all fieldB = true -> (l.flatMap fieldS).length = 16 * l.length := by
    intro l
    induction l with
    | nil => intro _; rfl
    | cons f l ih =>
      intro hl
      rw [List.flatMap_cons, List.length_append, fieldS_len (field_parts (List.all_eq_true.1 hl f (by simp))).2.1, ih (List.all_eq_true.2 fun g hg => List.all_eq_true.1 hl g (by simp [hg])), List.length_cons]
      omega
  unfold headS
  simp only [List.length_append, lowN_len, List.length_cons, List.length_nil, this h.all]
  omega
theorem rows_len {t : Tbl} (h : Okay t) : ∀ k, k <= t.recs.length -> (((t.recs.take k).flatMap (rowS shownS t.fields)).length : Int) = k * wide t.fields
  | 0, _ => by simp
  | k + 1, hk => by
    obtain ⟨x, hx⟩ := at_k (show k < t.recs.length by omega)
    rw [take_at hx, List.flatMap_append, List.length_append, List.flatMap_cons, List.flatMap_nil, List.append_nil]
    have h1 := rows_len h k (by omega)
    have h2 := rowS_len h.all (h.recs x (List.mem_of_getElem? hx))
    rw [Int.natCast_add, h1, h2, Int.natCast_add, Int.add_mul]; omega
theorem flatMap_snoc {α β : Type} (g : α -> List β) {l : List α} {k : Nat} {x : α} (h : l[k]? = some x) : (l.take (k + 1)).flatMap g = (l.take k).flatMap g ++ g x := by
  rw [take_at h, List.flatMap_append]; simp
theorem rows_le {t : Tbl} (h : Okay t) (k : Nat) (hk : k <= t.recs.length) : ((t.recs.take k).flatMap (rowS shownS t.fields)).length <= 600000 := by
  have h1 := rows_len h k hk
  have h2 := h.m300
  have h3 := h.w2
  have h4 : (k : Int) * wide t.fields <= 300 * 2000 := by
    have hw : 0 <= wide t.fields := by have := sum_le (WOk.of h.all); unfold wide; omega
    exact Int.mul_le_mul (by omega) h3 hw (by omega)
  omega
theorem tblBytes_c {w : World} {t : Tbl} {f r : SV} (h : RdTbl w t f r) (ho : Okay t) : Calls Tryz.prog 59 #[tblA t f r] w fun e w' => ∃ q : SV, e = .returned (.slice q.a q.len q.cap) /\ NewRow w w' q (bytesS t) /\ Pu w w' := by
  have hm := ho.m300
  have h16 := ho.n16
  have hrl := h.recs.len
  have hh := headS_le ho
  refine F59_calls _ _ _ w _ (alB fun w1 hp1 hb1 => ⟨_, cl hb1 0, _, cl hb1 1, _, cl hb1 2, (header_c (h.pu hp1) ho.vf (by omega)).mono ?_⟩)
  rintro e w2 ⟨q, rfl, hq, hp2⟩
  refine ⟨q, rfl, _, cl (hp2.blk hb1) 2, ?_⟩
  refine loopUp t.recs.length (fun k u w' => u.2 = (k : Int) /\ NewRow w1 w' u.1 (headS t ++ (t.recs.take k).flatMap (rowS shownS t.fields)) /\ Pu w1 w') ⟨rfl, by simpa using hq, hp2⟩ ?_
  rintro k J ⟨u1, u2⟩ w3 hk ⟨hu2, hr, hp⟩ hJ
  obtain rfl : u2 = (k : Int) := hu2
  have hr : NewRow w1 w3 u1 (headS t ++ (t.recs.take k).flatMap (rowS shownS t.fields)) := hr
  have hrs := rows_le ho k hk
  dsimp only
  refine Br.of (fun d => ?_) (fun d => ?_)
  · have hk2 : k < t.recs.length := by have := dtrue d; omega
    obtain ⟨x, hx⟩ := at_k hk2
    have hR := ho.recs x (List.mem_of_getElem? hx)
    obtain ⟨a, s, ha, hi, hs, c0, c1⟩ := recAt (h.recs.pu (hp1.trans hp)) hx
    refine ⟨a, ha, by omega, by omega, _, c0, s, c1, boxA rfl s46.symm rfl fun w4 hp4 hs4 hb4 => ⟨_, cl ((hp.trans hp4).blk hb1) 1, _, cl hb4 0, s, cl hb4 1, ?_⟩⟩
    refine (row_c (sh := shownS) (r := x) (h.fields.pu (hp1.trans (hp.trans hp4))) (hs.pu hp4) hR.1 h16 (WOk.of ho.all) (hR.writes ho.all) (hR.ne ho.all ho.ne)).mono ?_
    rintro e w5 ⟨m, rfl, hm5, hp5⟩
    have hl5 := rowS_len ho.all hR
    have hw2 := ho.w2
    obtain ⟨q', w6, e6, r6, p6⟩ := ((hr.pu hp4).pu hp5).cat ((hp.trans hp4).trans hp5) (m := m) hm5.len (fun j b hj => hm5.cell hj) (by rw [List.length_append]; omega)
    refine ⟨m, rfl, q', w6, e6, ?_⟩
    rw [wrap_in (by omega) (by omega)]
    refine hJ _ _ hk2 ⟨by dsimp only; omega, ?_, p6⟩
    dsimp only
    rw [flatMap_snoc _ hx, ← List.append_assoc]; exact r6
  · have hk2 : k = t.recs.length := by have := dfalse d; omega
    subst hk2
    rw [List.take_length] at hr hrs
    refine alB fun w4 hp4 hb4 => ?_
    obtain ⟨q', w5, e5, r5, p5⟩ := (hr.pu hp4).cat (hp.trans hp4) (m := ⟨some ⟨w3.heap.size, 0, none⟩, 1, 1⟩) (news := [26]) rfl (box_cells hb4 rfl) (by rw [List.length_append, List.length_singleton]; omega)
    exact ⟨q', w5, e5, q', rfl, r5.low hp1.size, hp1.trans p5⟩
theorem bytesE_c {w : World} {t : Tbl} {f r : SV} (h : RdTbl w t f r) (hl : Lim.ok t.fields) : Calls Tryz.prog 17 #[tblA t f r] w fun e w' => ∃ q : SV, e = .returned (.tuple #[.slice q.a q.len q.cap, .int .i64 (validT t)]) /\ NewRow w w' q (bytesOut t) /\ Pu w w' := by
  refine F17_calls _ _ _ w _ (alB fun w1 hp1 hb1 => ⟨_, cl hb1 0, _, cl hb1 1, _, cl hb1 2, (validTbl_c (h.pu hp1) hl).mono ?_⟩)
  rintro e w2 ⟨rfl, hp2⟩
  have b2 := hp2.blk hb1
  refine ⟨_, rfl, Br.of (fun d => ⟨⟨none, 0, 0⟩, rfl, by unfold bytesOut; rw [if_neg (bntrue d)]; exact NewRow.nil w w2, hp1.trans hp2⟩) (fun d => ?_)⟩
  have hv := bnfalse d
  refine ⟨_, cl b2 0, _, cl b2 1, _, cl b2 2, (tblBytes_c (h.pu (hp1.trans hp2)) (Okay.of hv)).mono ?_⟩
  rintro e w3 ⟨q, rfl, hq, hp3⟩
  exact ⟨q, rfl, q, by rw [hv], by unfold bytesOut; rw [if_pos hv]; exact hq.low (hp1.trans hp2).size, (hp1.trans hp2).trans hp3⟩
end Go.Proofs.YtecmfdfhpldmmaaGreatDoor

/- Table: bytes that are handed in; parts of a row's bytes. No condition. -/
set_option maxRecDepth 100000
set_option linter.unusedVariables false
set_option linter.unusedSimpArgs false
namespace Go.Proofs.YtecmfdfhpldmmaaGreatDoor
open Go.Sh Go.RowKit
theorem addr2 (a : Addr) (i j : Nat) : (a.add i).add j = a.add (i + j) := by
  unfold Addr.add
  by_cases hi : i = 0
  · subst hi; simp
  · by_cases hj : j = 0
    · subst hj; simp [hi]
    · simp [hi, hj, Nat.add_assoc]
structure ByV (w : World) (s : SV) (d : List UInt8) : Prop where
  len : s.len = d.length
  cap : s.len <= s.cap
  lim : s.len <= 140737488355328
  get : ∀ (j : Nat) (b : UInt8), d[j]? = some b -> ∃ a, s.a = some a /\ w.cell? (a.add (j * 1)) = some (u8V b)
theorem ByV.pu {w w' : World} {s : SV} {d : List UInt8} (h : ByV w s d) (hp : Pu w w') : ByV w' s d := ⟨h.len, h.cap, h.lim, fun j b hj => by
  obtain ⟨a, h1, h2⟩ := h.get j b hj
  exact ⟨a, h1, hp.cell h2⟩⟩
theorem ByV.of {w : World} {s : SV} {d : List UInt8} (h : RdSl w s d) : ByV w s d := ⟨h.len, h.cap, h.lim, fun j b hj => by
  obtain ⟨a, h1, _, h2⟩ := h.u8 hj
  exact ⟨a, h1, h2⟩⟩
theorem NewRow.by {w0 w : World} {s : SV} {d : List UInt8} (h : NewRow w0 w s d) (hb : d.length <= 140737488355328) : ByV w s d := ⟨h.len, h.1.le_cap.1, by have := h.len; omega, fun j b hj => by
  obtain ⟨a, h1, h2⟩ := h.cell hj
  exact ⟨a, h1, by rw [Nat.mul_one]; exact h2⟩⟩
theorem part_at {d : List UInt8} {lo n j : Nat} {b : UInt8} (h : ((d.drop lo).take n)[j]? = some b) : d[lo + j]? = some b := by
  rw [List.getElem?_take] at h
  split at h
  · rw [List.getElem?_drop] at h; exact h
  · cases h
theorem ByV.sub {w : World} {s : SV} {d : List UInt8} (h : ByV w s d) {lo hi : Nat} (h1 : lo <= hi) (h2 : hi <= d.length) : ByV w ⟨if s.cap = lo then s.a else s.a.map (fun x => x.add (lo * 1)), hi - lo, s.cap - lo⟩ ((d.drop lo).take (hi - lo)) := by
  have hl := h.len
  have hc := h.cap
  have hm := h.lim
  refine ⟨by rw [List.length_take, List.length_drop]; show hi - lo = _; omega, by show hi - lo <= s.cap - lo; omega, by show hi - lo <= _; omega, fun j b hj => ?_⟩
  have hj2 := part_at hj
  obtain ⟨a, ha, hcell⟩ := h.get _ _ hj2
  have hlt := (List.getElem?_eq_some_iff.1 hj2).1
  have hlt2 := (List.getElem?_eq_some_iff.1 hj).1
  rw [List.length_take, List.length_drop] at hlt2
  refine ⟨a.add (lo * 1), ?_, ?_⟩
  · show (if s.cap = lo then s.a else s.a.map (fun x => x.add (lo * 1))) = _
    rw [if_neg (by omega), ha]; rfl
  · rw [addr2, show lo * 1 + j * 1 = (lo + j) * 1 by omega]; exact hcell
theorem ByV.part3 {w : World} {s : SV} {d : List UInt8} (h : ByV w s d) {lo hi : Nat} (h1 : lo <= hi) (h2 : hi <= d.length) : ∃ l : SV, (Instr.sliceAt 37 (.slice s.a s.len s.cap) (some (.int .i64 (lo : Int))) (some (.int .i64 (hi : Int))) (some (.int .i64 (hi : Int)))).run Tryz.prog w = .ok (.slice l.a l.len l.cap) w /\ ByV w l ((d.drop lo).take (hi - lo)) := by
  have hl := h.len
  have hc := h.cap
  have hm := h.lim
  have hs : (sizeOf 5).run Tryz.prog w = .ok 1 w := Tryz.sizeOf5 w
  refine ⟨⟨if hi = lo then s.a else s.a.map (fun x => x.add (lo * 1)), hi - lo, hi - lo⟩, ?_, by rw [List.length_take, List.length_drop]; show hi - lo = _; omega, Nat.le_refl _, by show hi - lo <= _; omega, fun j b hj => ?_⟩
  · simp [Instr.sliceAt, run_under u37, Instr.slice, hs, Instr.sliceBounds, Instr.sliceBound, asIntOf, show hi <= s.cap by omega, h1]
  · have hj2 := part_at hj
    obtain ⟨a, ha, hcell⟩ := h.get _ _ hj2
    have hlt2 := (List.getElem?_eq_some_iff.1 hj).1
    rw [List.length_take, List.length_drop] at hlt2
    refine ⟨a.add (lo * 1), ?_, ?_⟩
    · show (if hi = lo then s.a else s.a.map (fun x => x.add (lo * 1))) = _
      rw [if_neg (by omega), ha]; rfl
    · rw [addr2, show lo * 1 + j * 1 = (lo + j) * 1 by omega]; exact hcell
theorem conv_by {w : World} {s : SV} {d : List UInt8} (h : ByV w s d) : (convert 37 9 (.slice s.a s.len s.cap)).run Tryz.prog w = .ok (.string (bs d)) w := by
  have hl := h.len
  rw [run_convert_bytes_string w 37 9 5 _ _ _ u37 u5 u9]
  cases ha : s.a with
  | none =>
    have hd : d = [] := by
      cases d with
      | nil => rfl
      | cons b d => obtain ⟨a, h1, _⟩ := h.get 0 b rfl; rw [ha] at h1; cases h1
    subst hd
    simp [Conv.bytesToString]; rfl
  | some a =>
    have hld : (loadCells a s.len).run Tryz.prog w = .ok ((d.map fun b => ((b.toNat : Nat) : Int)).map (Value.int .u8)).toArray w := by
      have := run_loadCells_list (P := Tryz.prog) w a ((d.map fun b => ((b.toNat : Nat) : Int)).map (Value.int .u8)) (fun j v hj => by
        simp only [List.getElem?_map, Option.map_map, Option.map_eq_some_iff] at hj
        obtain ⟨b, hb, rfl⟩ := hj
        obtain ⟨a', h1, h2⟩ := h.get j b hb
        rw [ha] at h1; cases h1
        rw [Nat.mul_one] at h2; exact h2)
      simpa [hl] using this
    rw [run_bytesToString w a s.len s.cap _ hld, foldl_push_bytes]
    congr 2
    apply bytes_ext
    have e0 : ((⟨ByteArray.empty.data ++ (List.map (fun n : Int => UInt8.ofNat n.toNat) (d.map fun b => ((b.toNat : Nat) : Int))).toArray⟩ : ByteArray)).data.toList = d.map ((fun n : Int => UInt8.ofNat n.toNat) ∘ fun b => ((b.toNat : Nat) : Int)) := by
      simp [ByteArray.empty, ByteArray.emptyWithCapacity]; rfl
    refine e0.trans ?_
    show _ = d
    conv => rhs; rw [← List.map_id d]
    apply List.map_congr_left
    intro x _
    simp
def numN (d : List UInt8) : Nat := d.foldr (fun b a => a * 256 + b.toNat) 0
theorem numN_cons (b : UInt8) (d : List UInt8) : numN (b :: d) = numN d * 256 + b.toNat := rfl
theorem numN_lt : ∀ d : List UInt8, numN d < 256 ^ d.length
  | [] => by simp [numN]
  | b :: d => by
    rw [numN_cons, List.length_cons, Nat.pow_succ]
    have := numN_lt d
    have := b.toNat_lt
    omega
theorem numN_low {m : Nat} (h : m < 4294967296) : numN (lowN m 4) = m := by
  unfold lowN
  simp only [List.range, List.range.loop, List.map_cons, List.map_nil, numN_cons]
  have e : ∀ x : Nat, (UInt8.ofNat (x % 256)).toNat = x % 256 := fun x => by simp
  simp only [e, numN, List.foldr_nil]
  omega
theorem or_low {a b : Nat} (ha : a < 16777216) (hb : b < 256) : IntKind.i64.wrap ((BitVec.ofInt 64 (IntKind.i64.wrap ((a : Int) * 2 ^ 8)) ||| BitVec.ofInt 64 (IntKind.i64.wrap (b : Int))).toNat : Nat) = ((a * 256 + b : Nat) : Int) := by
  rw [wrap_in (n := (a : Int) * 2 ^ 8) (by omega) (by omega), wrap_in (n := (b : Int)) (by omega) (by omega)]
  have e1 : ((a : Int) * 2 ^ 8) = ((a * 256 : Nat) : Int) := by omega
  have e2 : (BitVec.ofInt 64 ((a * 256 : Nat) : Int) ||| BitVec.ofInt 64 (b : Int)).toNat = a * 256 + b := by
    rw [BitVec.toNat_or]
    have h1 : (BitVec.ofInt 64 ((a * 256 : Nat) : Int)).toNat = a * 256 := by rw [BitVec.ofInt_natCast, BitVec.toNat_ofNat]; omega
    have h2 : (BitVec.ofInt 64 (b : Int)).toNat = b := by rw [BitVec.ofInt_natCast, BitVec.toNat_ofNat]; omega
    rw [h1, h2]
    have := Nat.shiftLeft_add_eq_or_of_lt (i := 8) (b := b) (by omega) a
    rw [Nat.shiftLeft_eq] at this
    exact this.symm
  rw [e1, e2, wrap_in (by omega) (by omega)]
theorem number_c {w : World} {s : SV} {d : List UInt8} (h : ByV w s d) (h4 : d.length = 4) : Calls Tryz.prog 114 #[.slice s.a s.len s.cap] w fun e w' => e = .returned (.int .i64 (numN d : Nat)) /\ Pu w w' := by
  refine F114_calls _ w _ ?_
  have hl := h.len
  rw [F114_5, wrap_in (by omega) (by omega)]
  refine loopUp 4 (fun k t w' => t.1 = (numN (d.drop (4 - k)) : Nat) /\ t.2 = 3 - (k : Int) /\ Pu w w') ⟨by rw [List.drop_eq_nil_of_le (by omega)]; rfl, by dsimp only; omega, Pu.refl _⟩ ?_
  rintro k J ⟨t1, t2⟩ w2 hk ⟨h1, h2, hp⟩ hJ
  obtain rfl : t1 = (numN (d.drop (4 - k)) : Nat) := h1
  obtain rfl : t2 = 3 - (k : Int) := h2
  dsimp only
  refine Br.of (fun q => ?_) (fun q => ?_)
  · have hk2 : k < 4 := by have := dtrue q; omega
    obtain ⟨b, hb⟩ := at_k (l := d) (k := 3 - k) (by omega)
    obtain ⟨a, ha, hc⟩ := (h.pu hp).get _ _ hb
    have hlt := numN_lt (d.drop (4 - k))
    rw [List.length_drop, h4] at hlt
    have hlt3 : numN (d.drop (4 - k)) < 16777216 := Nat.lt_of_lt_of_le hlt (by
      rcases (by omega : k = 0 ∨ k = 1 ∨ k = 2 ∨ k = 3) with rfl | rfl | rfl | rfl <;> decide)
    have hbl := b.toNat_lt
    refine ⟨by omega, a, ha, by omega, by omega, _, by rw [show (3 - (k : Int)).toNat = 3 - k by omega]; exact hc, ?_⟩
    rw [or_low hlt3 hbl, wrap_in (by omega) (by omega)]
    refine hJ _ _ hk2 ⟨?_, by dsimp only; omega, hp⟩
    dsimp only
    rw [show 4 - (k + 1) = 3 - k by omega, drop_at hb, numN_cons, show 3 - k + 1 = 4 - k by omega]
  · have hk2 : k = 4 := by have := dfalse q; omega
    subst hk2
    exact ⟨rfl, hp⟩
theorem bit_p : ∀ x : Nat, x < 256 -> ∀ r : Nat, r < 8 -> ((IntKind.u8.wrap ((BitVec.ofInt 8 (((x : Nat) : Int).fdiv (2 ^ (min r 8))) &&& BitVec.ofInt 8 1).toNat : Nat)) == 1) = x.testBit r := by decide +kernel
def sum8 (c0 c1 c2 c3 c4 c5 c6 c7 : Bool) : Nat := (if c0 then 2 ^ 0 else 0) + (if c1 then 2 ^ 1 else 0) + (if c2 then 2 ^ 2 else 0) + (if c3 then 2 ^ 3 else 0) + (if c4 then 2 ^ 4 else 0) + (if c5 then 2 ^ 5 else 0) + (if c6 then 2 ^ 6 else 0) + (if c7 then 2 ^ 7 else 0)
theorem sum8_bit : ∀ c0 c1 c2 c3 c4 c5 c6 c7 : Bool, ∀ r : Nat, r < 8 -> (UInt8.ofNat (sum8 c0 c1 c2 c3 c4 c5 c6 c7)).toNat.testBit r = [c0, c1, c2, c3, c4, c5, c6, c7].getD r false := by decide +kernel
theorem byteAt_bit (bits : List Bool) (q : Nat) {r : Nat} (hr : r < 8) : (UInt8.ofNat (byteAt bits q)).toNat.testBit r = decide (bits[8 * q + r]? = some true) := by
  have e : byteAt bits q = sum8 (decide (bits[8 * q + 0]? = some true)) (decide (bits[8 * q + 1]? = some true)) (decide (bits[8 * q + 2]? = some true)) (decide (bits[8 * q + 3]? = some true)) (decide (bits[8 * q + 4]? = some true)) (decide (bits[8 * q + 5]? = some true)) (decide (bits[8 * q + 6]? = some true)) (decide (bits[8 * q + 7]? = some true)) := by
    unfold byteAt sum8 bit01
    simp only [decide_eq_true_eq]
  rw [e, sum8_bit _ _ _ _ _ _ _ _ r hr]
  rcases (by omega : r = 0 ∨ r = 1 ∨ r = 2 ∨ r = 3 ∨ r = 4 ∨ r = 5 ∨ r = 6 ∨ r = 7) with rfl | rfl | rfl | rfl | rfl | rfl | rfl | rfl <;> rfl
def nullK (l : List Fld) (k : Nat) : Nat := ((l.take k).filter (·.null)).length
theorem nullK_le (l : List Fld) (k : Nat) : nullK l k <= (l.filter (·.null)).length := filter_take_le l k
theorem nbits_count : ∀ {l : List Fld} {vs : List Val}, vs.length = l.length -> (nbits l vs).length = (l.filter (·.null)).length
  | [], _, _ => by simp [nbits]
  | f :: l, [], h => by simp at h
  | f :: l, v :: vs, h => by
    have ih := nbits_count (l := l) (vs := vs) (by simpa using h)
    unfold nbits
    rw [List.filter_cons]
    by_cases hn : f.null = true
    · rw [if_pos hn, if_pos hn]; simp only [List.length_cons]; omega
    · rw [if_neg hn, if_neg hn]; exact ih
theorem nbits_split : ∀ (l : List Fld) (vs : List Val) (k : Nat), nbits l vs = nbits (l.take k) (vs.take k) ++ nbits (l.drop k) (vs.drop k)
  | [], _, _ => by simp [nbits]
  | f :: l, [], k => by
    have : nbits (f :: l) [] = [] := rfl
    rw [this]
    cases k with
    | zero => simp [nbits]
    | succ k => cases h : List.drop (k + 1) (f :: l) <;> simp [nbits]
  | f :: l, v :: vs, 0 => by simp [nbits]
  | f :: l, v :: vs, k + 1 => by
    have ih := nbits_split l vs k
    simp only [List.take_succ_cons, List.drop_succ_cons]
    have e1 : nbits (f :: l) (v :: vs) = if f.null then decide (v.kind = 0) :: nbits l vs else nbits l vs := rfl
    have e2 : nbits (f :: l.take k) (v :: vs.take k) = if f.null then decide (v.kind = 0) :: nbits (l.take k) (vs.take k) else nbits (l.take k) (vs.take k) := rfl
    rw [e1, e2]
    split
    · rw [ih]; rfl
    · exact ih
theorem nbits_at {l : List Fld} {vs : List Val} (hl : vs.length = l.length) {k : Nat} {f : Fld} {v : Val} (hf : l[k]? = some f) (hv : vs[k]? = some v) (hn : f.null = true) : (nbits l vs)[nullK l k]? = some (decide (v.kind = 0)) := by
  have hk := (List.getElem?_eq_some_iff.1 hf).1
  have h1 : (nbits (l.take k) (vs.take k)).length = nullK l k := nbits_count (by rw [List.length_take, List.length_take]; omega)
  rw [nbits_split l vs k, List.getElem?_append_right (by omega), h1, Nat.sub_self, drop_at hf, drop_at hv]
  unfold nbits; rw [if_pos hn]; rfl
theorem cellsS_split (sh : Fld -> Val -> List UInt8) (l : List Fld) (vs : List Val) (h : vs.length = l.length) (k : Nat) : cellsS sh l vs = cellsS sh (l.take k) (vs.take k) ++ cellsS sh (l.drop k) (vs.drop k) := by
  unfold cellsS
  rw [← List.flatMap_append, ← List.zip_append (by rw [List.length_take, List.length_take]; omega), List.take_append_drop, List.take_append_drop]
theorem row_gone {l : List Fld} {r : Rec} {d : List UInt8} (hd : rowS shownS l r = d) {b : UInt8} (hb : d[0]? = some b) : b = goneB r.gone := by
  rw [← hd] at hb
  unfold rowS at hb
  simpa using hb.symm
def offK (l : List Fld) (k : Nat) : Nat := 1 + nulls l + ((l.take k).map (fun x : Fld => x.width)).sum.toNat
theorem row_part {l : List Fld} {p : Int} {r : Rec} {d : List UInt8} (hall : l.all fieldB = true) (hR : RightR l p r.v) (hd : rowS shownS l r = d) {k : Nat} {f : Fld} {v : Val} (hf : l[k]? = some f) (hv : r.v[k]? = some v) : (d.drop (offK l k)).take f.width.toNat = shownS f v := by
  have hk := (List.getElem?_eq_some_iff.1 hf).1
  have h1 := cellsS_shown_len hall hR k (by omega)
  have hw := (hR.2 k f v hf hv).len
  rw [← hd]
  unfold rowS offK
  have hlen : ([goneB r.gone] ++ flN (nulls l) (nbits l r.v) ++ cellsS shownS (l.take k) (r.v.take k)).length = 1 + nulls l + ((l.take k).map (fun x : Fld => x.width)).sum.toNat := by
    simp only [List.length_append, flN_len, List.length_singleton]; omega
  rw [cellsS_split shownS l r.v hR.1 k, ← List.append_assoc, List.drop_append, List.drop_eq_nil_of_le (by omega), hlen, Nat.sub_self, List.drop_zero, List.nil_append, drop_at hf, drop_at hv]
  unfold cellsS
  rw [List.zip_cons_cons, List.flatMap_cons]
  dsimp only
  rw [cellS_shown, List.take_append_of_le_length (by omega), List.take_of_length_le (by omega)]
theorem row_flag {l : List Fld} {p : Int} {r : Rec} {d : List UInt8} (hR : RightR l p r.v) (hd : rowS shownS l r = d) {k : Nat} {f : Fld} {v : Val} (hf : l[k]? = some f) (hv : r.v[k]? = some v) (hn : f.null = true) {b : UInt8} (hb : d[1 + nullK l k / 8]? = some b) : b.toNat.testBit (nullK l k % 8) = decide (v.kind = 0) := by
  have hc := nbits_at hR.1 hf hv hn
  have hlt := (List.getElem?_eq_some_iff.1 hc).1
  rw [nbits_count hR.1] at hlt
  have hq : nullK l k / 8 < nulls l := by unfold nulls; omega
  have e : b = UInt8.ofNat (byteAt (nbits l r.v) (nullK l k / 8)) := by
    rw [← hd] at hb
    unfold rowS at hb
    rw [List.append_assoc, List.getElem?_append_right (by simp), List.getElem?_append_left (by simp [flN_len]; exact hq)] at hb
    simp only [List.length_singleton, Nat.add_sub_cancel_left] at hb
    rw [flN_at hq] at hb
    exact (Option.some.inj hb).symm
  rw [e, byteAt_bit _ _ (Nat.mod_lt _ (by decide)), show 8 * (nullK l k / 8) + nullK l k % 8 = nullK l k by omega, hc]
  simp
theorem nullK_succ {l : List Fld} {k : Nat} {f : Fld} (hf : l[k]? = some f) : nullK l (k + 1) = if f.null then nullK l k + 1 else nullK l k := nullN_take' hf
theorem offK_succ {l : List Fld} (hall : l.all fieldB = true) {k : Nat} {f : Fld} (hf : l[k]? = some f) : offK l (k + 1) = offK l k + f.width.toNat := by
  have h1 := sum_take hf
  have h2 := sum_le ((WOk.of hall).take k)
  have h3 := WOk.of hall f (List.mem_of_getElem? hf)
  unfold offK; rw [h1]; omega
theorem offK_le {l : List Fld} (hall : l.all fieldB = true) {k : Nat} {f : Fld} (hf : l[k]? = some f) : ((offK l k + f.width.toNat : Nat) : Int) <= wide l := by
  have hk := (List.getElem?_eq_some_iff.1 hf).1
  have h1 := sum_take hf
  have h2 := sum_le ((WOk.of hall).take k)
  have h3 := WOk.of hall f (List.mem_of_getElem? hf)
  have h4 : ((l.take (k + 1)).map (·.width)).sum <= (l.map (·.width)).sum := by
    have e : l.map (·.width) = (l.take (k + 1)).map (·.width) ++ (l.drop (k + 1)).map (·.width) := by rw [← List.map_append, List.take_append_drop]
    have h5 := sum_le (l := l.drop (k + 1)) fun g hg => WOk.of hall g (List.mem_of_mem_drop hg)
    rw [e, List.sum_append]; omega
  unfold offK wide; omega
end Go.Proofs.YtecmfdfhpldmmaaGreatDoor

/- Table: the program's reading of a row's bytes. No condition. -/
set_option maxRecDepth 100000
set_option maxHeartbeats 2000000
set_option linter.unusedVariables false
set_option linter.unusedSimpArgs false
namespace Go.Proofs.YtecmfdfhpldmmaaGreatDoor
open Go.Sh Go.RowKit
def appV (l83 : SV) (p6 : Option Addr) (c : Array Value) (K : World -> Prop) (w : World) : Prop :=
  alE (.cells c 25) w fun r85 w23 => ∃ l86 : SV, ∃ w24 : World, (Builtin.append_ #[44, 44] 44 #[.slice l83.a l83.len l83.cap, .slice (some ⟨r85, 0, none⟩) 1 1]).run Tryz.prog w23 = .ok (.slice l86.a l86.len l86.cap) w24 /\
  ptrE p6 fun a25 => st1 (a25.add 1) (.slice l86.a l86.len l86.cap) w24 fun w26 => K w26
def pushR (p6 : Option Addr) (r14 : Nat) (K : World -> Prop) (w : World) : Prop :=
  ptrE p6 fun a22 => ∃ l83 : SV, w.cell? (a22.add 1) = some (.slice l83.a l83.len l83.cap) /\
  ∃ n84_0 : Int, w.cell? ((⟨r14, 0, none⟩ : Addr).add 0) = some (.int .i64 n84_0) /\
  ∃ n84_1 : Int, w.cell? ((⟨r14, 0, none⟩ : Addr).add 1) = some (.int .i64 n84_1) /\
  ∃ s84_2 : ByteArray, w.cell? ((⟨r14, 0, none⟩ : Addr).add 2) = some (.string s84_2) /\
  appV l83 p6 #[.int .i64 n84_0, .int .i64 n84_1, .string s84_2] K w
structure RecSt (w0 wr : World) (r4 r6 : Nat) (g : Bool) (vs : List Val) (w : World) : Prop where
  ex : ∃ q : SV, w.heap[r6]? = some (.cells #[.bool g, .slice q.a q.len q.cap] 46) /\ NewV wr w q vs
  b4 : w.heap[r4]? = some (.cells #[.bool false, .slice none 0 0] 46)
  sz : wr.heap.size <= w.heap.size
  pu : Pu w0 w
  l4 : r4 < wr.heap.size
  l6 : r6 < wr.heap.size
  ne : r4 ≠ r6
  z4 : w0.heap.size <= r4
  z6 : w0.heap.size <= r6
theorem RecSt.on {w0 wr w w' : World} {r4 r6 : Nat} {g : Bool} {vs : List Val} (h : RecSt w0 wr r4 r6 g vs w) (hp : Pu w w') : RecSt w0 wr r4 r6 g vs w' := by
  obtain ⟨q, h1, h2⟩ := h.ex
  exact ⟨⟨q, hp.blk h1, h2.pu hp⟩, hp.blk h.b4, Nat.le_trans h.sz hp.size, h.pu.trans hp, h.l4, h.l6, h.ne, h.z4, h.z6⟩
theorem appV_c {w0 wr w : World} {r4 r6 : Nat} {g : Bool} {vs : List Val} (h : RecSt w0 wr r4 r6 g vs w) {q : SV} (h6 : w.heap[r6]? = some (.cells #[.bool g, .slice q.a q.len q.cap] 46)) (hq : NewV wr w q vs) {v : Val} {c : Array Value} (hc : c = #[.int .i64 v.kind, .int .i64 v.n, .string v.s]) (hl : vs.length <= 1000000) {K : World -> Prop}
    (hK : ∀ w', RecSt w0 wr r4 r6 g (vs ++ [v]) w' -> K w') : appV q (some ⟨r6, 0, none⟩) c K w := by
  refine alB fun w1 hp1 hb1 => ?_
  have h1 := h.on hp1
  have z1 := hp1.size
  have z := h.sz
  obtain ⟨q', w2, e2, r2, f2⟩ := (hq.pu hp1).push (by omega) hb1 hc hl
  have n6 : ¬ r6 ∈ blkOf q := fun hc => by have := hq.2 _ hc; have := h.l6; omega
  have n4 : ¬ r4 ∈ blkOf q := fun hc => by have := hq.2 _ hc; have := h.l4; omega
  have b6 := f2.blk (hp1.blk h6) n6
  have b4 := f2.blk h1.b4 n4
  refine ⟨q', w2, e2, st1_intro (o := 1) b6 (by simp) fun wx ex hbx => ?_⟩
  have fx : Fr (· = r6) w2 wx := by rw [ex]; exact Fr.cell w2 _ _ _
  have zx : wx.heap.size = w2.heap.size := by rw [ex]; simp
  have z2 := f2.size
  have h46 := h.ne
  have hz6 := h.z6
  have hl6 := h.l6
  have hl4 := h.l4
  have hz4 := h.z4
  refine hK wx ⟨⟨q', hbx, r2.fr fx fun i hi => by have := r2.2 i hi; omega⟩, fx.blk b4 (by omega), by omega, ?_, h.l4, h.l6, h.ne, h.z4, h.z6⟩
  have p2 : Pu w0 w2 := h1.pu.andNew f2 fun i hi => by have := hq.2 i hi; omega
  exact p2.andNew fx fun i hi => by omega
theorem pushR_c {w0 wr w : World} {r4 r6 r14 : Nat} {g : Bool} {vs : List Val} (h : RecSt w0 wr r4 r6 g vs w) {v : Val} (hv : w.heap[r14]? = some (.cells #[.int .i64 v.kind, .int .i64 v.n, .string v.s] 25)) (hl : vs.length <= 1000000) {K : World -> Prop}
    (hK : ∀ w', RecSt w0 wr r4 r6 g (vs ++ [v]) w' -> K w') : pushR (some ⟨r6, 0, none⟩) r14 K w := by
  obtain ⟨q, h6, hq⟩ := h.ex
  exact ⟨q, cl h6 1, _, cl hv 0, _, cl hv 1, _, cl hv 2, appV_c h h6 hq rfl hl hK⟩
def rdTail (K : Bool -> World -> Prop) (p6 : Option Addr) (b9 ok : Bool) (r14 : Nat) (w : World) : Prop := Br b9 (pushR p6 r14 (K ok) w) (pushR p6 r14 (K false) w)
def rdRegion (K : Bool -> World -> Prop) (p6 : Option Addr) (b9 : Bool) (r11 : Nat) (l40 : SV) (w9 : World) : Prop :=
  dwE w9 fun w16 =>
  ∃ S1 : World -> Prop, S1 w16 /\
  ∃ n70 : Int, (∀ w', S1 w' -> w'.cell? ((⟨r11, 0, none⟩ : Addr).add 1) = some (.int .i64 n70)) /\
  (
  Calls Tryz.prog 89 #[] w16 fun e w17 =>
  ∃ m68 : Option Nat, e = .returned (.map m68) /\
  ∃ S2 : World -> Prop, S2 w17 /\ (∀ u, S2 u -> S1 u) /\
  ∃ n71_0 : Int, ∃ n71_1 : Int, ∃ n71_2 : Int, ∃ v71_3 : Value, ∃ v71_4 : Value, (∀ w', S2 w' -> (Instr.lookup 104 (.map m68) (.int .i64 n70) false).run Tryz.prog w' = .ok (.agg #[.int .u8 n71_0, .int .i64 n71_1, .int .i64 n71_2, v71_3, v71_4]) w') /\
  (
  ∃ s74 : ByteArray, ∃ w18 : World, (convert 37 9 (.slice l40.a l40.len l40.cap)).run Tryz.prog w17 = .ok (.string s74) w18 /\
  ∃ S3 : World -> Prop, S3 w18 /\ (∀ u, S3 u -> S2 u) /\
  (
  fnE v71_4 fun f75 first75 cap75 =>
  hasBody Tryz.prog f75 = true /\ Calls Tryz.prog f75 (first75.toList ++ (([.string s74] : List Value) ++ cap75.toList)).toArray w18 fun e w19 =>
  ∃ n75_0_0 : Int, ∃ n75_0_1 : Int, ∃ s75_0_2 : ByteArray, ∃ b75_1 : Bool, e = .returned (.tuple #[.agg #[.int .i64 n75_0_0, .int .i64 n75_0_1, .string s75_0_2], .bool b75_1]) /\
  alE (.cells #[.int .i64 0, .int .i64 0, .string (⟨#[]⟩ : ByteArray)] 25) w19 fun r14 w20 =>
  stA Tryz.prog 25 (⟨r14, 0, none⟩ : Addr) #[.int .i64 n75_0_0, .int .i64 n75_0_1, .string s75_0_2] w20 fun w21 =>
  rdTail K p6 b9 b75_1 r14 w21) /\ (
  alE (.cells #[.int .i64 0, .int .i64 0, .string (⟨#[]⟩ : ByteArray)] 25) w18 fun r14 w32 =>
  ∃ S4 : World -> Prop, S4 w32 /\ (∀ u, S4 u -> S3 u) /\
  fnE v71_4 fun f75 first75 cap75 =>
  hasBody Tryz.prog f75 = true /\ Calls Tryz.prog f75 (first75.toList ++ (([.string s74] : List Value) ++ cap75.toList)).toArray w32 fun e w33 =>
  ∃ n75_0_0 : Int, ∃ n75_0_1 : Int, ∃ s75_0_2 : ByteArray, ∃ b75_1 : Bool, e = .returned (.tuple #[.agg #[.int .i64 n75_0_0, .int .i64 n75_0_1, .string s75_0_2], .bool b75_1]) /\
  stA Tryz.prog 25 (⟨r14, 0, none⟩ : Addr) #[.int .i64 n75_0_0, .int .i64 n75_0_1, .string s75_0_2] w33 fun w34 =>
  rdTail K p6 b9 b75_1 r14 w34)) /\ (
  alE (.cells #[.int .i64 0, .int .i64 0, .string (⟨#[]⟩ : ByteArray)] 25) w17 fun r14 w45 =>
  ∃ S5 : World -> Prop, S5 w45 /\ (∀ u, S5 u -> S2 u) /\
  ∃ s74 : ByteArray, ∃ w46 : World, (convert 37 9 (.slice l40.a l40.len l40.cap)).run Tryz.prog w45 = .ok (.string s74) w46 /\
  ∃ S6 : World -> Prop, S6 w46 /\ (∀ u, S6 u -> S5 u) /\
  fnE v71_4 fun f75 first75 cap75 =>
  hasBody Tryz.prog f75 = true /\ Calls Tryz.prog f75 (first75.toList ++ (([.string s74] : List Value) ++ cap75.toList)).toArray w46 fun e w47 =>
  ∃ n75_0_0 : Int, ∃ n75_0_1 : Int, ∃ s75_0_2 : ByteArray, ∃ b75_1 : Bool, e = .returned (.tuple #[.agg #[.int .i64 n75_0_0, .int .i64 n75_0_1, .string s75_0_2], .bool b75_1]) /\
  stA Tryz.prog 25 (⟨r14, 0, none⟩ : Addr) #[.int .i64 n75_0_0, .int .i64 n75_0_1, .string s75_0_2] w47 fun w48 =>
  rdTail K p6 b9 b75_1 r14 w48)) /\ (
  (
  ∃ s74 : ByteArray, ∃ w59 : World, (convert 37 9 (.slice l40.a l40.len l40.cap)).run Tryz.prog w16 = .ok (.string s74) w59 /\
  ∃ S7 : World -> Prop, S7 w59 /\ (∀ u, S7 u -> S1 u) /\
  (
  Calls Tryz.prog 89 #[] w59 fun e w60 =>
  ∃ m68 : Option Nat, e = .returned (.map m68) /\
  ∃ S8 : World -> Prop, S8 w60 /\ (∀ u, S8 u -> S7 u) /\
  ∃ n71_0 : Int, ∃ n71_1 : Int, ∃ n71_2 : Int, ∃ v71_3 : Value, ∃ v71_4 : Value, (∀ w', S8 w' -> (Instr.lookup 104 (.map m68) (.int .i64 n70) false).run Tryz.prog w' = .ok (.agg #[.int .u8 n71_0, .int .i64 n71_1, .int .i64 n71_2, v71_3, v71_4]) w') /\
  (
  fnE v71_4 fun f75 first75 cap75 =>
  hasBody Tryz.prog f75 = true /\ Calls Tryz.prog f75 (first75.toList ++ (([.string s74] : List Value) ++ cap75.toList)).toArray w60 fun e w61 =>
  ∃ n75_0_0 : Int, ∃ n75_0_1 : Int, ∃ s75_0_2 : ByteArray, ∃ b75_1 : Bool, e = .returned (.tuple #[.agg #[.int .i64 n75_0_0, .int .i64 n75_0_1, .string s75_0_2], .bool b75_1]) /\
  alE (.cells #[.int .i64 0, .int .i64 0, .string (⟨#[]⟩ : ByteArray)] 25) w61 fun r14 w62 =>
  stA Tryz.prog 25 (⟨r14, 0, none⟩ : Addr) #[.int .i64 n75_0_0, .int .i64 n75_0_1, .string s75_0_2] w62 fun w63 =>
  rdTail K p6 b9 b75_1 r14 w63) /\ (
  alE (.cells #[.int .i64 0, .int .i64 0, .string (⟨#[]⟩ : ByteArray)] 25) w60 fun r14 w74 =>
  ∃ S9 : World -> Prop, S9 w74 /\ (∀ u, S9 u -> S8 u) /\
  fnE v71_4 fun f75 first75 cap75 =>
  hasBody Tryz.prog f75 = true /\ Calls Tryz.prog f75 (first75.toList ++ (([.string s74] : List Value) ++ cap75.toList)).toArray w74 fun e w75 =>
  ∃ n75_0_0 : Int, ∃ n75_0_1 : Int, ∃ s75_0_2 : ByteArray, ∃ b75_1 : Bool, e = .returned (.tuple #[.agg #[.int .i64 n75_0_0, .int .i64 n75_0_1, .string s75_0_2], .bool b75_1]) /\
  stA Tryz.prog 25 (⟨r14, 0, none⟩ : Addr) #[.int .i64 n75_0_0, .int .i64 n75_0_1, .string s75_0_2] w75 fun w76 =>
  rdTail K p6 b9 b75_1 r14 w76)) /\ (
  alE (.cells #[.int .i64 0, .int .i64 0, .string (⟨#[]⟩ : ByteArray)] 25) w59 fun r14 w87 =>
  ∃ S10 : World -> Prop, S10 w87 /\ (∀ u, S10 u -> S7 u) /\
  Calls Tryz.prog 89 #[] w87 fun e w88 =>
  ∃ m68 : Option Nat, e = .returned (.map m68) /\
  ∃ S11 : World -> Prop, S11 w88 /\ (∀ u, S11 u -> S10 u) /\
  ∃ n71_0 : Int, ∃ n71_1 : Int, ∃ n71_2 : Int, ∃ v71_3 : Value, ∃ v71_4 : Value, (∀ w', S11 w' -> (Instr.lookup 104 (.map m68) (.int .i64 n70) false).run Tryz.prog w' = .ok (.agg #[.int .u8 n71_0, .int .i64 n71_1, .int .i64 n71_2, v71_3, v71_4]) w') /\
  fnE v71_4 fun f75 first75 cap75 =>
  hasBody Tryz.prog f75 = true /\ Calls Tryz.prog f75 (first75.toList ++ (([.string s74] : List Value) ++ cap75.toList)).toArray w88 fun e w89 =>
  ∃ n75_0_0 : Int, ∃ n75_0_1 : Int, ∃ s75_0_2 : ByteArray, ∃ b75_1 : Bool, e = .returned (.tuple #[.agg #[.int .i64 n75_0_0, .int .i64 n75_0_1, .string s75_0_2], .bool b75_1]) /\
  stA Tryz.prog 25 (⟨r14, 0, none⟩ : Addr) #[.int .i64 n75_0_0, .int .i64 n75_0_1, .string s75_0_2] w89 fun w90 =>
  rdTail K p6 b9 b75_1 r14 w90)) /\ (
  alE (.cells #[.int .i64 0, .int .i64 0, .string (⟨#[]⟩ : ByteArray)] 25) w16 fun r14 w101 =>
  ∃ S12 : World -> Prop, S12 w101 /\ (∀ u, S12 u -> S1 u) /\
  (
  Calls Tryz.prog 89 #[] w101 fun e w102 =>
  ∃ m68 : Option Nat, e = .returned (.map m68) /\
  ∃ S13 : World -> Prop, S13 w102 /\ (∀ u, S13 u -> S12 u) /\
  ∃ n71_0 : Int, ∃ n71_1 : Int, ∃ n71_2 : Int, ∃ v71_3 : Value, ∃ v71_4 : Value, (∀ w', S13 w' -> (Instr.lookup 104 (.map m68) (.int .i64 n70) false).run Tryz.prog w' = .ok (.agg #[.int .u8 n71_0, .int .i64 n71_1, .int .i64 n71_2, v71_3, v71_4]) w') /\
  ∃ s74 : ByteArray, ∃ w103 : World, (convert 37 9 (.slice l40.a l40.len l40.cap)).run Tryz.prog w102 = .ok (.string s74) w103 /\
  ∃ S14 : World -> Prop, S14 w103 /\ (∀ u, S14 u -> S13 u) /\
  fnE v71_4 fun f75 first75 cap75 =>
  hasBody Tryz.prog f75 = true /\ Calls Tryz.prog f75 (first75.toList ++ (([.string s74] : List Value) ++ cap75.toList)).toArray w103 fun e w104 =>
  ∃ n75_0_0 : Int, ∃ n75_0_1 : Int, ∃ s75_0_2 : ByteArray, ∃ b75_1 : Bool, e = .returned (.tuple #[.agg #[.int .i64 n75_0_0, .int .i64 n75_0_1, .string s75_0_2], .bool b75_1]) /\
  stA Tryz.prog 25 (⟨r14, 0, none⟩ : Addr) #[.int .i64 n75_0_0, .int .i64 n75_0_1, .string s75_0_2] w104 fun w105 =>
  rdTail K p6 b9 b75_1 r14 w105) /\ (
  ∃ s74 : ByteArray, ∃ w116 : World, (convert 37 9 (.slice l40.a l40.len l40.cap)).run Tryz.prog w101 = .ok (.string s74) w116 /\
  ∃ S15 : World -> Prop, S15 w116 /\ (∀ u, S15 u -> S12 u) /\
  Calls Tryz.prog 89 #[] w116 fun e w117 =>
  ∃ m68 : Option Nat, e = .returned (.map m68) /\
  ∃ S16 : World -> Prop, S16 w117 /\ (∀ u, S16 u -> S15 u) /\
  ∃ n71_0 : Int, ∃ n71_1 : Int, ∃ n71_2 : Int, ∃ v71_3 : Value, ∃ v71_4 : Value, (∀ w', S16 w' -> (Instr.lookup 104 (.map m68) (.int .i64 n70) false).run Tryz.prog w' = .ok (.agg #[.int .u8 n71_0, .int .i64 n71_1, .int .i64 n71_2, v71_3, v71_4]) w') /\
  fnE v71_4 fun f75 first75 cap75 =>
  hasBody Tryz.prog f75 = true /\ Calls Tryz.prog f75 (first75.toList ++ (([.string s74] : List Value) ++ cap75.toList)).toArray w117 fun e w118 =>
  ∃ n75_0_0 : Int, ∃ n75_0_1 : Int, ∃ s75_0_2 : ByteArray, ∃ b75_1 : Bool, e = .returned (.tuple #[.agg #[.int .i64 n75_0_0, .int .i64 n75_0_1, .string s75_0_2], .bool b75_1]) /\
  stA Tryz.prog 25 (⟨r14, 0, none⟩ : Addr) #[.int .i64 n75_0_0, .int .i64 n75_0_1, .string s75_0_2] w118 fun w119 =>
  rdTail K p6 b9 b75_1 r14 w119)))
theorem rdRegion_c {K : Bool -> World -> Prop} {p6 : Option Addr} {b9 : Bool} {r11 : Nat} {l40 : SV} {w9 : World} {f : Fld} {part : List UInt8} (hb : w9.heap[r11]? = some (.cells #[.string f.name, .int .i64 f.kind, .int .i64 f.width, .bool f.null] 23)) (hf : fieldB f = true) (hl : ByV w9 l40 part)
    (tail : ∀ (wz : World) (r14 : Nat), Pu w9 wz -> wz.heap[r14]? = some (.cells #[.int .i64 (readS f.kind part).kind, .int .i64 (readS f.kind part).n, .string (readS f.kind part).s] 25) -> rdTail K p6 b9 (okS f.kind part) r14 wz) : rdRegion K p6 b9 r11 l40 w9 := by
  obtain ⟨R5, hk5, hbody, hcall0⟩ := reader_c hf
  have hsz : (bs part).size <= 140737488355328 := by rw [bs_size, ← hl.len]; exact hl.lim
  have hcall : ∀ w, Calls Tryz.prog R5.rd #[.string (bs part)] w fun e w' => e = .returned (.tuple #[valA (readS f.kind part), .bool (okS f.kind part)]) /\ Pu w w' := fun w => by
    have := hcall0 (bs part) hsz w
    rw [bs_list] at this; exact this
  have kin : ∀ wz, Calls Tryz.prog 89 #[] wz fun e w' => ∃ m : Nat, e = .returned (.map (some m)) /\ (∀ u, Pu w' u -> (Instr.lookup 104 (.map (some m)) (.int .i64 f.kind) false).run Tryz.prog u = .ok (.agg #[.int .u8 R5.letter, .int .i64 R5.least, .int .i64 R5.most, .func (.func R5.wr) #[] #[], .func (.func R5.rd) #[] #[]]) u) /\ Pu wz w' := fun wz => by
    refine (kinds_c wz).mono ?_
    rintro e w' ⟨m, rfl, hm, _, hp⟩
    refine ⟨m, rfl, fun u hu => ?_, hp⟩
    have := kind_look (hm.pu hu) f.kind false
    rw [hk5] at this; exact this
  have conv : ∀ {wz}, Pu w9 wz -> (convert 37 9 (.slice l40.a l40.len l40.cap)).run Tryz.prog wz = .ok (.string (bs part)) wz := fun {wz} h => conv_by (hl.pu h)
  -- the call, then the variable
  have ca : ∀ {wz : World}, Pu w9 wz -> Calls Tryz.prog R5.rd #[.string (bs part)] wz fun e w19 => ∃ n75_0_0 : Int, ∃ n75_0_1 : Int, ∃ s75_0_2 : ByteArray, ∃ b75_1 : Bool, e = .returned (.tuple #[.agg #[.int .i64 n75_0_0, .int .i64 n75_0_1, .string s75_0_2], .bool b75_1]) /\
      alE (.cells #[.int .i64 0, .int .i64 0, .string (⟨#[]⟩ : ByteArray)] 25) w19 fun r14 w20 => stA Tryz.prog 25 (⟨r14, 0, none⟩ : Addr) #[.int .i64 n75_0_0, .int .i64 n75_0_1, .string s75_0_2] w20 fun w21 => rdTail K p6 b9 b75_1 r14 w21 := fun {wz} hz => by
    refine (hcall wz).mono ?_
    rintro e w1 ⟨rfl, hp1⟩
    exact ⟨_, _, _, _, rfl, boxA rfl s25.symm rfl fun w2 hp2 hs2 hb2 => tail w2 _ ((hz.trans hp1).trans hp2) hb2⟩
  -- the call, behind the variable
  have ac : ∀ {wz : World} {r14 : Nat}, Pu w9 wz -> wz.heap[r14]? = some (.cells #[.int .i64 0, .int .i64 0, .string (⟨#[]⟩ : ByteArray)] 25) -> w9.heap.size <= r14 -> Calls Tryz.prog R5.rd #[.string (bs part)] wz fun e w19 => ∃ n75_0_0 : Int, ∃ n75_0_1 : Int, ∃ s75_0_2 : ByteArray, ∃ b75_1 : Bool, e = .returned (.tuple #[.agg #[.int .i64 n75_0_0, .int .i64 n75_0_1, .string s75_0_2], .bool b75_1]) /\
      stA Tryz.prog 25 (⟨r14, 0, none⟩ : Addr) #[.int .i64 n75_0_0, .int .i64 n75_0_1, .string s75_0_2] w19 fun w21 => rdTail K p6 b9 b75_1 r14 w21 := fun {wz r14} hz hb14 hr => by
    refine (hcall wz).mono ?_
    rintro e w1 ⟨rfl, hp1⟩
    exact ⟨_, _, _, _, rfl, stA_fill (hp1.blk hb14) s25.symm rfl rfl fun w2 hb2 hf2 hs2 => tail w2 _ ((hz.trans hp1).andNew hf2 fun i hi => by omega) hb2⟩
  refine dwE_intro fun w16 hp16 _ => ⟨fun u => Pu w16 u, Pu.refl _, f.kind, fun u hu => cl (hu.blk (hp16.blk hb)) 1, (kin w16).mono ?_, ?_, alB fun w2 hp2 hb2 => ?_⟩
  · rintro e w1 ⟨m, rfl, hm, hp1⟩
    have q1 := hp16.trans hp1
    refine ⟨some m, rfl, fun u => Pu w1 u, Pu.refl _, fun u hu => hp1.trans hu, _, _, _, _, _, hm, ⟨bs part, w1, conv q1, fun u => Pu w1 u, Pu.refl _, fun u hu => hu, ⟨hbody, ca q1⟩, alB fun w2 hp2 hb2 => ⟨fun u => Pu w2 u, Pu.refl _, fun u hu => hp2.trans hu, hbody, ac (q1.trans hp2) hb2 q1.size⟩⟩, alB fun w2 hp2 hb2 => ?_⟩
    exact ⟨fun u => Pu w2 u, Pu.refl _, fun u hu => hp2.trans hu, bs part, w2, conv (q1.trans hp2), fun u => Pu w2 u, Pu.refl _, fun u hu => hu, hbody, ac (q1.trans hp2) hb2 q1.size⟩
  · refine ⟨bs part, w16, conv hp16, fun u => Pu w16 u, Pu.refl _, fun u hu => hu, (kin w16).mono ?_, alB fun w2 hp2 hb2 => ?_⟩
    · rintro e w1 ⟨m, rfl, hm, hp1⟩
      have q1 := hp16.trans hp1
      exact ⟨some m, rfl, fun u => Pu w1 u, Pu.refl _, fun u hu => hp1.trans hu, _, _, _, _, _, hm, ⟨hbody, ca q1⟩, alB fun w2 hp2 hb2 => ⟨fun u => Pu w2 u, Pu.refl _, fun u hu => hp2.trans hu, hbody, ac (q1.trans hp2) hb2 q1.size⟩⟩
    · refine ⟨fun u => Pu w2 u, Pu.refl _, fun u hu => hp2.trans hu, (kin w2).mono ?_⟩
      rintro e w1 ⟨m, rfl, hm, hp1⟩
      exact ⟨some m, rfl, fun u => Pu w1 u, Pu.refl _, fun u hu => hp1.trans hu, _, _, _, _, _, hm, hbody, ac ((hp16.trans hp2).trans hp1) (hp1.blk hb2) hp16.size⟩
  · refine ⟨fun u => Pu w2 u, Pu.refl _, fun u hu => hp2.trans hu, (kin w2).mono ?_, bs part, w2, conv (hp16.trans hp2), fun u => Pu w2 u, Pu.refl _, fun u hu => hu, (kin w2).mono ?_⟩
    · rintro e w1 ⟨m, rfl, hm, hp1⟩
      exact ⟨some m, rfl, fun u => Pu w1 u, Pu.refl _, fun u hu => hp1.trans hu, _, _, _, _, _, hm, bs part, w1, conv ((hp16.trans hp2).trans hp1), fun u => Pu w1 u, Pu.refl _, fun u hu => hu, hbody, ac ((hp16.trans hp2).trans hp1) (hp1.blk hb2) hp16.size⟩
    · rintro e w1 ⟨m, rfl, hm, hp1⟩
      exact ⟨some m, rfl, fun u => Pu w1 u, Pu.refl _, fun u hu => hp1.trans hu, _, _, _, _, _, hm, hbody, ac ((hp16.trans hp2).trans hp1) (hp1.blk hb2) hp16.size⟩
theorem readRow_c {w : World} {l : List Fld} {s t : SV} {d : List UInt8} (h : RdSl w s l) (hall : l.all fieldB = true) (h16 : l.length <= 16) (ht : ByV w t d) (hd : (d.length : Int) = wide l) :
    Calls Tryz.prog 115 #[.slice s.a s.len s.cap, .slice t.a t.len t.cap] w fun e w' => ∃ (g ok : Bool) (vs : List Val) (q : SV), e = .returned (.tuple #[.agg #[.bool g, .slice q.a q.len q.cap], .bool ok]) /\ NewV w w' q vs /\ vs.length = l.length /\ (∀ v ∈ vs, In64 v.kind /\ In64 v.n) /\ Pu w w' /\
      ∀ (r : Rec) (p : Int), RightR l p r.v -> rowS shownS l r = d -> g = r.gone /\ vs = r.v /\ ok = true := by
  have hsl := h.len
  have htl := ht.len
  have hnl := nulls_le l
  have hwide := sum_le (WOk.of hall)
  have hlw : (l.map (·.width)).sum <= 254 * l.length := hwide.2
  have hd0 : 0 < d.length := by unfold wide at hd; omega
  have hdb : (d.length : Int) <= 10000 := by unfold wide at hd; omega
  have hdw : 1 + nulls l <= d.length := by unfold wide at hd; omega
  refine F115_calls _ _ w _ (alB fun w1 hp1 hb1 => ?_)
  obtain ⟨b0, hb0⟩ := at_k hd0
  obtain ⟨a0, ha0, hc0⟩ := (ht.pu hp1).get _ _ hb0
  refine ⟨a0, ha0, by omega, by omega, _, hc0, boxA rfl s46.symm rfl fun w2 hp2 hs2 hb2 => (nullBytes_c (h.pu (hp1.trans hp2))).mono ?_⟩
  rintro e w3 ⟨rfl, hp3⟩
  refine ⟨_, rfl, ?_⟩
  have l1 : w.heap.size < w1.heap.size := blk_lt hb1
  have l2 : w1.heap.size < w2.heap.size := blk_lt hb2
  have z3 := hp3.size
  have st0 : RecSt w w2 w.heap.size w1.heap.size (((b0.toNat : Nat) : Int) == 42) [] w3 := ⟨⟨⟨none, 0, 0⟩, hp3.blk hb2, NewV.nil w2 w3⟩, (hp2.trans hp3).blk hb1, z3, (hp1.trans hp2).trans hp3, by omega, l2, by omega, Nat.le_refl _, by omega⟩
  rw [wrap_in (by omega) (by omega)]
  refine loopUp l.length (fun k u w' => u.2.2.2 = (k : Int) /\ u.1 = (offK l k : Nat) /\ u.2.1 = (nullK l k : Nat) /\ ∃ vs : List Val, vs.length = k /\ (∀ v ∈ vs, In64 v.kind /\ In64 v.n) /\ RecSt w w2 w.heap.size w1.heap.size (((b0.toNat : Nat) : Int) == 42) vs w' /\
      ∀ (r : Rec) (p : Int), RightR l p r.v -> rowS shownS l r = d -> vs = r.v.take k /\ u.2.2.1 = true) ⟨rfl, by show (1 : Int) + ((nulls l : Nat) : Int) = _; unfold offK; simp, rfl, [], rfl, by simp, st0, fun r p _ _ => ⟨by simp, rfl⟩⟩ ?_
  rintro k J ⟨u1, u2, u3, u4⟩ w4 hk ⟨e4, e1, e2, vs, hvl, hv64, st, hcond⟩ hJ
  obtain rfl : u4 = (k : Int) := e4
  obtain rfl : u1 = (offK l k : Nat) := e1
  obtain rfl : u2 = (nullK l k : Nat) := e2
  have hcond : ∀ (r : Rec) (p : Int), RightR l p r.v -> rowS shownS l r = d -> vs = r.v.take k /\ u3 = true := hcond
  have hnk := nullK_le l k
  have hfl := List.length_filter_le (·.null) l
  dsimp only
  refine Br.of (fun q => ?_) (fun q => ?_)
  · have hk2 : k < l.length := by have := dtrue q; omega
    obtain ⟨f, hf⟩ := at_k hk2
    have hfB := List.all_eq_true.1 hall f (List.mem_of_getElem? hf)
    have hwf := field_width hfB
    have hoff := offK_le hall hf
    obtain ⟨a, ha, hi, _, _, _, c0, c1, c2, c3⟩ := fldAt (h.pu st.pu) hf
    refine ⟨a, ha, by omega, by omega, _, c0, _, c1, _, c2, _, c3, boxA rfl s23.symm rfl fun w5 hp5 hs5 hb5 => ⟨_, cl hb5 2, _, cl hb5 2, ?_⟩⟩
    have st5 := st.on hp5
    have ht5 := ht.pu st5.pu
    obtain ⟨l40, e40, h40⟩ := ht5.part3 (lo := offK l k) (hi := offK l k + f.width.toNat) (by omega) (by omega)
    rw [show offK l k + f.width.toNat - offK l k = f.width.toNat by omega] at h40
    have ew : IntKind.i64.wrap (((offK l k : Nat) : Int) + f.width) = ((offK l k + f.width.toNat : Nat) : Int) := by rw [wrap_in (by omega) (by omega)]; omega
    rw [ew, wrap_in (n := ((nullK l k : Nat) : Int) + 1) (by omega) (by omega)]
    refine ⟨l40, w5, e40, _, cl hb5 2, _, cl hb5 3, ?_⟩
    rw [ew]
    have hpart : ∀ (r : Rec) (p : Int), RightR l p r.v -> rowS shownS l r = d -> ∀ v, r.v[k]? = some v -> (d.drop (offK l k)).take f.width.toNat = shownS f v := fun r p hR hrow v hv => row_part hall hR hrow hf hv
    generalize hpt : (d.drop (offK l k)).take f.width.toNat = part at *
    -- behind the value
    have next : ∀ {nk : Int} {v : Val} {b : Bool} {w' : World}, nk = (nullK l (k + 1) : Nat) -> In64 v.kind /\ In64 v.n -> RecSt w w2 w.heap.size w1.heap.size (((b0.toNat : Nat) : Int) == 42) (vs ++ [v]) w' ->
        (∀ (r : Rec) (p : Int), RightR l p r.v -> rowS shownS l r = d -> u3 = true -> ∀ v', r.v[k]? = some v' -> v = v' /\ b = true) -> J (((offK l k + f.width.toNat : Nat) : Int), nk, b, IntKind.i64.wrap ((k : Int) + 1)) w' := fun {nk v b w'} q1 q2 q3 q4 => by
      rw [wrap_in (by omega) (by omega)]
      refine hJ _ _ hk2 ⟨by dsimp only; omega, by dsimp only; rw [offK_succ hall hf], q1, vs ++ [v], by simp [hvl], fun x hx => ?_, q3, fun r p hR hrow => ?_⟩
      · rcases List.mem_append.1 hx with hx | hx
        · exact hv64 x hx
        · simp at hx; subst hx; exact q2
      · obtain ⟨h1, h2⟩ := hcond r p hR hrow
        obtain ⟨v', hv'⟩ := at_k (l := r.v) (k := k) (by have := hR.1; omega)
        obtain ⟨h3, h4⟩ := q4 r p hR hrow h2 v' hv'
        exact ⟨by rw [take_at hv', ← h1, h3], h4⟩
    -- a value that is there
    have reg : ∀ {nk : Int}, nk = (nullK l (k + 1) : Nat) -> (∀ (r : Rec) (p : Int), RightR l p r.v -> rowS shownS l r = d -> ∀ v', r.v[k]? = some v' -> v'.kind ≠ 0) ->
        rdRegion (fun b w' => J (((offK l k + f.width.toNat : Nat) : Int), nk, b, IntKind.i64.wrap ((k : Int) + 1)) w') (some ⟨w1.heap.size, 0, none⟩) u3 w4.heap.size l40 w5 := fun {nk} hnk hkind => by
      refine rdRegion_c hb5 hfB h40 fun wz r14 hz hb14 => ?_
      have stz := st5.on hz
      refine Br.of (fun q1 => pushR_c stz (v := readS f.kind part) hb14 (by omega) fun w' st' => next hnk (readS_in _ _) st' fun r p hR hrow hu v' hv' => ?_) (fun q1 => pushR_c stz (v := readS f.kind part) hb14 (by omega) fun w' st' => next hnk (readS_in _ _) st' fun r p hR hrow hu v' hv' => ?_)
      · have := read_shown (hR.2 k f v' hf hv') (hkind r p hR hrow v' hv')
        rw [← hpart r p hR hrow v' hv'] at this; exact this
      · rw [q1] at hu; cases hu
    refine Br.of (fun q1 => ⟨rfl, by decide, ?_⟩) (fun q1 => reg (by rw [nullK_succ hf, if_neg (by rw [q1]; simp)]) fun r p hR hrow v' hv' h0 => ?_)
    · have hm1 : nullK l k + 1 <= (l.filter (·.null)).length := by
        have h1 := nullK_succ hf
        rw [if_pos q1] at h1
        have h2 := nullK_le l (k + 1)
        omega
      have hq : nullK l k / 8 < nulls l := by unfold nulls; omega
      have e1 : ((nullK l k : Nat) : Int).tdiv 8 = ((nullK l k / 8 : Nat) : Int) := tdiv_nat _ 8
      have e2 : ((nullK l k : Nat) : Int).tmod 8 = ((nullK l k % 8 : Nat) : Int) := tmod_nat _ 8
      rw [e1, e2, wrap_in (n := ((nullK l k / 8 : Nat) : Int)) (by omega) (by omega), wrap_in (n := 1 + ((nullK l k / 8 : Nat) : Int)) (by omega) (by omega)]
      obtain ⟨bf, hbf⟩ := at_k (l := d) (k := 1 + nullK l k / 8) (by omega)
      obtain ⟨af, haf, hcf⟩ := ht5.get _ _ hbf
      refine ⟨af, haf, by omega, by omega, _, by rw [show (1 + ((nullK l k / 8 : Nat) : Int)).toNat = 1 + nullK l k / 8 by omega]; exact hcf, rfl, by decide, by omega, ?_⟩
      rw [Int.toNat_natCast, bit_p _ bf.toNat_lt _ (Nat.mod_lt _ (by decide))]
      have enk : ((nullK l k : Nat) : Int) + 1 = ((nullK l (k + 1) : Nat) : Int) := by rw [nullK_succ hf, if_pos q1]; omega
      refine Br.of (fun q2 => ?_) (fun q2 => reg enk fun r p hR hrow v' hv' h0 => ?_)
      · obtain ⟨q, h6, hq6⟩ := st5.ex
        refine ⟨q, cl h6 1, appV_c (v := noV) st5 h6 hq6 rfl (by omega) fun w' st' => next enk ⟨⟨by decide, by decide⟩, ⟨by decide, by decide⟩⟩ st' fun r p hR hrow hu v' hv' => ⟨?_, hu⟩⟩
        have hbit := row_flag hR hrow hf hv' q1 hbf
        rw [q2] at hbit
        have h0 : v'.kind = 0 := by simpa using hbit.symm
        have hRv := hR.2 k f v' hf hv'
        cases hRv with
        | nil hv hn => exact hv.symm
        | truth hk hw hv hn => rw [hv] at h0; exact absurd h0 (by simp)
        | num hk hw hv hn hl => rw [hv] at h0; exact absurd h0 (by simp)
        | date hk hw hv hn => rw [hv] at h0; exact absurd h0 (by simp)
        | text hk hw hv hl hb ht => rw [hv] at h0; exact absurd h0 (by simp)
        | memo hk hw hv hn => rw [hv] at h0; exact absurd h0 (by simp)
      · have hbit := row_flag hR hrow hf hv' q1 hbf
        rw [q2, decide_eq_true h0] at hbit; cases hbit
    · have hRv := hR.2 k f v' hf hv'
      cases hRv with
      | nil hv hn => rw [q1] at hn; cases hn
      | truth hk hw hv hn => rw [hv] at h0; exact absurd h0 (by simp)
      | num hk hw hv hn hl => rw [hv] at h0; exact absurd h0 (by simp)
      | date hk hw hv hn => rw [hv] at h0; exact absurd h0 (by simp)
      | text hk hw hv hl hb ht => rw [hv] at h0; exact absurd h0 (by simp)
      | memo hk hw hv hn => rw [hv] at h0; exact absurd h0 (by simp)
  · have hk2 : k = l.length := by have := dfalse q; omega
    subst hk2
    obtain ⟨q, h6, hq⟩ := st.ex
    have hne := st.ne
    refine ⟨_, cl h6 0, q, cl h6 1, stA_fill st.b4 s46.symm rfl rfl fun w5 hb5 hf5 hs5 => ⟨_, cl hb5 0, q, cl hb5 1, _, u3, vs, q, rfl, ?_, hvl, hv64, st.pu.andNew hf5 fun i hi => by omega, fun r p hR hrow => ?_⟩⟩
    · exact (hq.fr hf5 fun i hi => by have := hq.2 i hi; omega).low (by omega)
    · obtain ⟨h1, h2⟩ := hcond r p hR hrow
      refine ⟨?_, by rw [h1, List.take_of_length_le (by have := hR.1; omega)], h2⟩
      rw [row_gone hrow hb0]
      cases r.gone <;> decide
end Go.Proofs.YtecmfdfhpldmmaaGreatDoor

/- Table: the reference's reading of a row's bytes. No condition. -/
set_option maxRecDepth 100000
set_option maxHeartbeats 2000000
set_option linter.unusedVariables false
set_option linter.unusedSimpArgs false
namespace Go.Proofs.YtecmfdfhpldmmaaGreatDoor
open Go.Sh Go.RowKit
def w84 (K : Int -> Int -> World -> Prop) (l0 : SV) (n8 n7 : Int) (w20 : World) : Prop :=
  ∃ a21 : Addr, l0.a = some a21 /\ 0 <= n8 /\ n8 < ((l0.len : Nat) : Int) /\
  ∃ n71 : Int, w20.cell? ((a21.add (n8.toNat * 4)).add 2) = some (.int .i64 n71) /\ K n71 n7 w20
end Go.Proofs.YtecmfdfhpldmmaaGreatDoor

/- Table: rows of fields and of records that a call has made; a field's entry, read by both packages. No condition. -/
set_option maxRecDepth 100000
set_option maxHeartbeats 1000000
set_option linter.unusedVariables false
set_option linter.unusedSimpArgs false
namespace Go.Proofs.YtecmfdfhpldmmaaGreatDoor
open Go.Sh Go.RowKit
theorem u32' : Tryz.prog.underlying 32 = some (.slice 23) := by kernel_rfl
theorem info23 : (Tryz.prog.info? 23).map (fun i => (i.zero, i.size, i.bytes)) = some (some (.agg #[.string ⟨#[]⟩, .int .i64 0, .int .i64 0, .bool false]), 4, 40) := by kernel_rfl
theorem u33 : Tryz.prog.underlying 33 = some (.slice 46) := by kernel_rfl
theorem info46 : (Tryz.prog.info? 46).map (fun i => (i.zero, i.size, i.bytes)) = some (some (.agg #[.bool false, .slice none 0 0]), 2, 32) := by kernel_rfl
theorem fldV_len (f : Fld) : (fldV f).length = 4 := rfl
def NewF (w0 w : World) (s : SV) (l : List Fld) : Prop := RowAt w 23 4 s (l.flatMap fldV) /\ ∀ b ∈ blkOf s, w0.heap.size <= b
theorem NewF.len {w0 w : World} {s : SV} {l : List Fld} (h : NewF w0 w s l) : s.len = l.length := h.1.len fldV_len (by decide)
theorem NewF.pu {w0 w w' : World} {s : SV} {l : List Fld} (h : NewF w0 w s l) (hp : Pu w w') : NewF w0 w' s l := ⟨h.1.pu hp, h.2⟩
theorem NewF.fr {B : Nat -> Prop} {w0 w w' : World} {s : SV} {l : List Fld} (h : NewF w0 w s l) (hf : Fr B w w') (hn : ∀ k ∈ blkOf s, ¬ B k) : NewF w0 w' s l := ⟨h.1.fr hf hn, h.2⟩
theorem NewF.nil (w0 w : World) : NewF w0 w ⟨none, 0, 0⟩ [] := ⟨RowAt.nil w 23 4, by simp [blkOf]⟩
theorem NewF.low {w0 w1 w : World} {s : SV} {l : List Fld} (h : NewF w1 w s l) (hz : w0.heap.size <= w1.heap.size) : NewF w0 w s l := ⟨h.1, fun b hb => Nat.le_trans hz (h.2 b hb)⟩
theorem NewF.push {w0 w : World} {s : SV} {l : List Fld} (h : NewF w0 w s l) (hz : w0.heap.size <= w.heap.size) {r : Nat} {f : Fld} {c : Array Value} (hr : w.heap[r]? = some (.cells c 23)) (hc : c = #[.string f.name, .int .i64 f.kind, .int .i64 f.width, .bool f.null]) (hb : l.length <= 1000000) :
    ∃ (s' : SV) (w' : World), (Builtin.append_ #[32, 32] 32 #[.slice s.a s.len s.cap, .slice (some ⟨r, 0, none⟩) 1 1]).run Tryz.prog w = .ok (.slice s'.a s'.len s'.cap) w' /\ NewF w0 w' s' (l ++ [f]) /\ Fr (· ∈ blkOf s) w w' := by
  subst hc
  have h1 := h.len
  obtain ⟨s', w', hra, hrow, hf, hblk, _⟩ := row_append_any (P := Tryz.prog) (ty := 32) u32' info23 rfl (by decide) h.1 (A := some ⟨r, 0, none⟩) (m := 1) (c := 1) (news := fldV f) rfl (fun j u hu => ⟨_, rfl, by rw [cl hr]; simpa using hu⟩) (fun u hu => by simp [fldV] at hu; rcases hu with rfl | rfl | rfl | rfl <;> rfl) (by omega)
  refine ⟨s', w', hra, ⟨by simpa using hrow, fun b hb => ?_⟩, hf⟩
  rcases hblk b hb with h2 | h2
  · exact h.2 b h2
  · omega
def F64 (l : List Fld) : Prop := ∀ f ∈ l, In64 f.kind /\ In64 f.width
def V64 (l : List Val) : Prop := ∀ v ∈ l, In64 v.kind /\ In64 v.n
theorem NewF.rd {w0 w : World} {s : SV} {l : List Fld} (h : NewF w0 w s l) (hb : l.length <= 1000000) (h64 : F64 l) : RdSl w s l := ⟨h.len, h.1.le_cap.1, by have := h.len; omega, fun i f hf => by
  obtain ⟨a, h1, _, c0⟩ := h.1.elem fldV_len hf (o := 0) rfl
  obtain ⟨a1, h1', _, c1⟩ := h.1.elem fldV_len hf (o := 1) rfl
  obtain ⟨a2, h1'', _, c2⟩ := h.1.elem fldV_len hf (o := 2) rfl
  obtain ⟨a3, h1''', _, c3⟩ := h.1.elem fldV_len hf (o := 3) rfl
  rw [h1] at h1' h1'' h1'''; cases h1'; cases h1''; cases h1'''
  refine ⟨a, h1, fldV f, ⟨rfl, h64 f (List.mem_of_getElem? hf)⟩, fun j v hv => ?_⟩
  rcases j with _ | _ | _ | _ | j <;> simp [fldV] at hv
  · subst hv; exact c0
  · subst hv; exact c1
  · subst hv; exact c2
  · subst hv; exact c3⟩
theorem NewV.rdS {w0 w : World} {s : SV} {l : List Val} (h : NewV w0 w s l) (hb : l.length <= 1000000) (h64 : V64 l) : RdSl w s l := ⟨h.len, h.1.le_cap.1, by have := h.len; omega, fun i f hf => by
  obtain ⟨a, h1, _, c0⟩ := h.1.elem valV_len hf (o := 0) rfl
  obtain ⟨a1, h1', _, c1⟩ := h.1.elem valV_len hf (o := 1) rfl
  obtain ⟨a2, h1'', _, c2⟩ := h.1.elem valV_len hf (o := 2) rfl
  rw [h1] at h1' h1''; cases h1'; cases h1''
  refine ⟨a, h1, valV f, ⟨rfl, h64 f (List.mem_of_getElem? hf)⟩, fun j v hv => ?_⟩
  rcases j with _ | _ | _ | j <;> simp [valV] at hv
  · subst hv; exact c0
  · subst hv; exact c1
  · subst hv; exact c2⟩
def recC (x : Bool × SV) : List Value := [.bool x.1, .slice x.2.a x.2.len x.2.cap]
theorem recC_len (x : Bool × SV) : (recC x).length = 2 := rfl
theorem rows_apart {w : World} {e e' : TypeId} {sz sz' : Nat} {s s' : SV} {vs vs' : List Value} (h : RowAt w e sz s vs) (h' : RowAt w e' sz' s' vs') (hne : e ≠ e') : ∀ k ∈ blkOf s, ¬ k ∈ blkOf s' := fun k hk hk' => by
  obtain ⟨_, rfl | ⟨g, cur, h3, h4, _⟩⟩ := h
  · simp [blkOf] at hk
  obtain ⟨_, rfl | ⟨g', cur', h3', h4', _⟩⟩ := h'
  · simp [blkOf] at hk'
  simp [blkOf, h3] at hk
  simp [blkOf, h3'] at hk'
  subst hk; subst hk'
  rw [h4] at h4'
  simp only [Option.some.injEq, Obj.cells.injEq] at h4'
  exact hne h4'.2.1
def NewR (w0 w : World) (s : SV) (rs : List Rec) : Prop := ∃ qs : List (Bool × SV), RowAt w 46 2 s (qs.flatMap recC) /\ (∀ b ∈ blkOf s, w0.heap.size <= b) /\ qs.length = rs.length /\ ∀ (i : Nat) (r : Rec) (x : Bool × SV), rs[i]? = some r -> qs[i]? = some x -> x.1 = r.gone /\ NewV w0 w x.2 r.v
theorem NewR.len {w0 w : World} {s : SV} {rs : List Rec} (h : NewR w0 w s rs) : s.len = rs.length := by
  obtain ⟨qs, h1, _, h3, _⟩ := h
  rw [h1.len recC_len (by decide), h3]
theorem NewR.own {w0 w : World} {s : SV} {rs : List Rec} (h : NewR w0 w s rs) : ∀ b ∈ blkOf s, w0.heap.size <= b := h.choose_spec.2.1
theorem NewR.pu {w0 w w' : World} {s : SV} {rs : List Rec} (h : NewR w0 w s rs) (hp : Pu w w') : NewR w0 w' s rs := by
  obtain ⟨qs, h1, h2, h3, h4⟩ := h
  exact ⟨qs, h1.pu hp, h2, h3, fun i r x hr hx => ⟨(h4 i r x hr hx).1, (h4 i r x hr hx).2.pu hp⟩⟩
theorem NewR.one {w0 w w' : World} {b : Nat} {s : SV} {rs : List Rec} (h : NewR w0 w s rs) (hf : Fr (· = b) w w') (hb : b < w0.heap.size) : NewR w0 w' s rs := by
  obtain ⟨qs, h1, h2, h3, h4⟩ := h
  exact ⟨qs, h1.fr hf fun k hk e => by have := h2 k hk; omega, h2, h3, fun i r x hr hx => ⟨(h4 i r x hr hx).1, (h4 i r x hr hx).2.fr hf fun k hk e => by have := (h4 i r x hr hx).2.2 k hk; omega⟩⟩
theorem NewR.low {w0 w1 w : World} {s : SV} {rs : List Rec} (h : NewR w1 w s rs) (hz : w0.heap.size <= w1.heap.size) : NewR w0 w s rs := by
  obtain ⟨qs, h1, h2, h3, h4⟩ := h
  exact ⟨qs, h1, fun b hb => Nat.le_trans hz (h2 b hb), h3, fun i r x hr hx => ⟨(h4 i r x hr hx).1, (h4 i r x hr hx).2.low hz⟩⟩
theorem NewR.nil (w0 w : World) : NewR w0 w ⟨none, 0, 0⟩ [] := ⟨[], RowAt.nil w 46 2, by simp [blkOf], rfl, fun i r x hr => by simp at hr⟩
theorem NewR.push {w0 w : World} {s q : SV} {rs : List Rec} {g : Bool} {vs : List Val} (h : NewR w0 w s rs) (hz : w0.heap.size <= w.heap.size) (hq : NewV w0 w q vs) {r : Nat} {c : Array Value} (hr : w.heap[r]? = some (.cells c 46)) (hc : c = #[.bool g, .slice q.a q.len q.cap]) (hb : rs.length <= 1000000) :
    ∃ (s' : SV) (w' : World), (Builtin.append_ #[33, 33] 33 #[.slice s.a s.len s.cap, .slice (some ⟨r, 0, none⟩) 1 1]).run Tryz.prog w = .ok (.slice s'.a s'.len s'.cap) w' /\ NewR w0 w' s' (rs ++ [⟨g, vs⟩]) /\ Fr (· ∈ blkOf s) w w' := by
  subst hc
  have h1 := h.len
  obtain ⟨qs, r1, r2, r3, r4⟩ := h
  obtain ⟨s', w', hra, hrow, hf, hblk, _⟩ := row_append_any (P := Tryz.prog) (ty := 33) u33 info46 rfl (by decide) r1 (A := some ⟨r, 0, none⟩) (m := 1) (c := 1) (news := recC (g, q)) rfl (fun j u hu => ⟨_, rfl, by rw [cl hr]; simpa [recC] using hu⟩) (fun u hu => by simp [recC] at hu; rcases hu with rfl | rfl <;> rfl) (by omega)
  refine ⟨s', w', hra, ⟨qs ++ [(g, q)], by simpa using hrow, fun b hb => ?_, by simp [r3], fun i rr x hr2 hx => ?_⟩, hf⟩
  · rcases hblk b hb with h2 | h2
    · exact r2 b h2
    · omega
  · rcases Nat.lt_trichotomy i rs.length with hi | hi | hi
    · rw [List.getElem?_append_left hi] at hr2
      rw [List.getElem?_append_left (by omega)] at hx
      obtain ⟨e1, e2⟩ := r4 i rr x hr2 hx
      exact ⟨e1, e2.fr hf (rows_apart e2.1 r1 (by decide))⟩
    · subst hi
      rw [List.getElem?_append_right (Nat.le_refl _), Nat.sub_self] at hr2
      rw [← r3, List.getElem?_append_right (Nat.le_refl _), Nat.sub_self] at hx
      simp at hr2 hx; subst hr2 hx
      exact ⟨rfl, hq.fr hf (rows_apart hq.1 r1 (by decide))⟩
    · rw [List.getElem?_eq_none (by simp; omega)] at hr2; cases hr2
def R64 (rs : List Rec) : Prop := ∀ r ∈ rs, V64 r.v /\ r.v.length <= 1000000
theorem NewR.rd {w0 w : World} {s : SV} {rs : List Rec} (h : NewR w0 w s rs) (hb : rs.length <= 1000000) (h64 : R64 rs) : RdSl w s rs := by
  have hl := h.len
  obtain ⟨qs, r1, r2, r3, r4⟩ := h
  refine ⟨hl, r1.le_cap.1, by omega, fun i r hr => ?_⟩
  obtain ⟨x, hx⟩ := at_k (l := qs) (k := i) (by have := (List.getElem?_eq_some_iff.1 hr).1; omega)
  obtain ⟨e1, e2⟩ := r4 i r x hr hx
  obtain ⟨a, h1, _, c0⟩ := r1.elem recC_len hx (o := 0) rfl
  obtain ⟨a1, h1', _, c1⟩ := r1.elem recC_len hx (o := 1) rfl
  rw [h1] at h1'; cases h1'
  obtain ⟨q1, q2⟩ := h64 r (List.mem_of_getElem? hr)
  refine ⟨a, h1, _, ⟨x.2, rfl, e2.rdS q2 q1⟩, fun j v hv => ?_⟩
  rcases j with _ | _ | j <;> simp at hv
  · subst hv; rw [← e1]; exact c0
  · subst hv; exact c1
def trim0 (l : List UInt8) : List UInt8 := (l.reverse.dropWhile (· == 0)).reverse
theorem trim0_c (s : ByteArray) (hs : s.size <= 140737488355328) (w : World) : Calls Tryz.prog 51 #[.string s, .string ⟨#[0]⟩] w fun e w' => e = .returned (.string (bs (trim0 s.data.toList))) /\ Pu w w' :=
  (Any.strings_TrimRight_one Tryz.lays162 s 0 (by decide) w (by omega)).mono fun e w' ⟨h1, h2⟩ => ⟨h1, h2 ▸ Pu.refl _⟩
theorem trim0_zeros (l : List UInt8) (hl : ∀ b ∈ l, b ≠ 0) (j : Nat) : trim0 (l ++ List.replicate j 0) = l := by
  unfold trim0
  rw [List.reverse_append, List.reverse_replicate]
  have e1 : ∀ (j : Nat) (x : List UInt8), (List.replicate j 0 ++ x).dropWhile (· == 0) = x.dropWhile (· == 0) := by
    intro j x
    induction j with
    | zero => rfl
    | succ j ih => rw [List.replicate_succ, List.cons_append, List.dropWhile_cons]; simp only [beq_self_eq_true, if_true]; exact ih
  rw [e1]
  have e2 : l.reverse.dropWhile (· == 0) = l.reverse := by
    cases h : l.reverse with
    | nil => rfl
    | cons a r =>
      have ha : a ∈ l := by rw [← List.mem_reverse, h]; simp
      rw [List.dropWhile_cons, if_neg (by simpa using hl a ha)]
  rw [e2, List.reverse_reverse]
theorem trim0_le (l : List UInt8) : (trim0 l).length <= l.length := by
  unfold trim0
  have h := List.IsSuffix.length_le (List.dropWhile_suffix (· == (0 : UInt8)) (l := l.reverse))
  simpa using h
theorem name_bytes {f : Fld} (h : fieldB f = true) : ∀ b ∈ f.name.data.toList, b ≠ 0 := fun b hb => by
  unfold fieldB nameB at h
  simp only [Bool.and_eq_true] at h
  have h1 := List.all_eq_true.1 h.1.1.2 b hb
  intro e; subst e; revert h1; decide
theorem byteI_in {n : Int} (h : 0 <= n /\ n <= 255) : (((byteI n).toNat : Nat) : Int) = n := by
  unfold byteI
  have : (UInt8.ofNat (n % 256).toNat).toNat = (n % 256).toNat := by simp; omega
  rw [this]; omega
theorem entry_parts {f : Fld} (hf : fieldB f = true) {d : List UInt8} (hd : fieldS f = d) : d.take 10 = f.name.data.toList ++ List.replicate (10 - f.name.size) 0 /\ d[10]? = some (letterB f.kind) /\ d[11]? = some (byteI f.width) /\ d[12]? = some (nullB f.null) := by
  obtain ⟨_, h10, _⟩ := field_parts hf
  have hl : (f.name.data.toList ++ List.replicate (10 - f.name.size) (0 : UInt8)).length = 10 := by rw [List.length_append, size_list, List.length_replicate]; omega
  subst hd
  unfold fieldS
  refine ⟨?_, ?_, ?_, ?_⟩
  · rw [List.take_append_of_le_length (by omega), List.take_of_length_le (by omega)]
  · rw [List.getElem?_append_right (by omega), hl]; rfl
  · rw [List.getElem?_append_right (by omega), hl]; rfl
  · rw [List.getElem?_append_right (by omega), hl]; rfl
theorem kindsL_look {k : Int} {K : K5} (h : kindOf5 k = some K) : (k, K) ∈ kindsL := AL.get_mem h
theorem letters_apart : ∀ p ∈ kindsL, ∀ q ∈ kindsL, p.2.letter = q.2.letter -> p.1 = q.1 := by decide
theorem kinds64 : ∀ p ∈ kindsL, In64 p.1 := fun p hp => by
  have : ∀ p ∈ kindsL, 0 <= p.1 /\ p.1 <= 5 := by decide
  have := this p hp
  exact ⟨by omega, by omega⟩
def KindSo (b : UInt8) (kd : Int) (todo : List (Int × K5)) : Prop := (∀ p ∈ kindsL, p.2.letter = ((b.toNat : Nat) : Int) -> p ∈ todo ∨ kd = p.1) /\ (kd = 0 ∨ ∃ p ∈ kindsL, p.2.letter = ((b.toNat : Nat) : Int) /\ kd = p.1)
theorem readField_c {w : World} {t : SV} {d : List UInt8} (ht : ByV w t d) (hd : d.length = 16) : Calls Tryz.prog 113 #[.slice t.a t.len t.cap] w fun e w' => ∃ f' : Fld, e = .returned (fldA f') /\ In64 f'.kind /\ In64 f'.width /\ f'.name.size <= 10 /\ Pu w w' /\ ∀ f, fieldB f = true -> fieldS f = d -> f' = f := by
  have htl := ht.len
  have htc := ht.cap
  obtain ⟨b10, h10⟩ := at_k (l := d) (k := 10) (by omega)
  obtain ⟨b11, h11⟩ := at_k (l := d) (k := 11) (by omega)
  obtain ⟨b12, h12⟩ := at_k (l := d) (k := 12) (by omega)
  have n10 := b10.toNat_lt
  have n11 := b11.toNat_lt
  refine F113_calls _ w _ (alB fun w1 hp1 hb1 => dwE_intro fun w2 hp2 _ => ?_)
  have hp02 := hp1.trans hp2
  obtain ⟨a11, ha11, hc11⟩ := (ht.pu hp02).get _ _ h11
  obtain ⟨a12, ha12, hc12⟩ := (ht.pu hp02).get _ _ h12
  have hsub : ∀ {wz}, Pu w2 wz -> (convert 37 9 (.slice (if t.cap = 0 then t.a else t.a.map (fun x => x.add (0 * 1))) ((10 : Int).toNat - 0) (t.cap - 0))).run Tryz.prog wz = .ok (.string (bs (d.take 10))) wz := fun {wz} hz => by
    have h1 := (ht.pu (hp02.trans hz)).sub (lo := 0) (hi := 10) (by omega) (by omega)
    rw [List.drop_zero] at h1
    exact conv_by h1
  have hl10 : (bs (d.take 10)).size = 10 := by rw [bs_size, List.length_take]; omega
  have trim : ∀ wz, Calls Tryz.prog 51 #[.string (bs (d.take 10)), .string (⟨#[0]⟩ : ByteArray)] wz fun e w' => e = .returned (.string (bs (trim0 (d.take 10)))) /\ Pu wz w' := fun wz => by
    have := trim0_c (bs (d.take 10)) (by omega) wz
    rw [bs_list] at this; exact this
  have hnm : (bs (trim0 (d.take 10))).size <= 10 := by
    have := trim0_le (d.take 10)
    rw [List.length_take] at this
    rw [bs_size]; omega
  have r2lt : w.heap.size < w1.heap.size := blk_lt hb1
  have z2 := hp2.size
  -- behind the variable's first values
  have main : ∀ {wz : World} {r3 : Nat}, Pu w2 wz -> w2.heap.size <= r3 -> wz.heap[r3]? = some (.cells #[.string (bs (trim0 (d.take 10))), .int .i64 0, .int .i64 (IntKind.i64.wrap ((b11.toNat : Nat) : Int)), .bool (((b12.toNat : Nat) : Int) == 1)] 23) ->
      Calls Tryz.prog 89 #[] wz fun e w23 => ∃ m19 : Option Nat, e = .returned (.map m19) /\ ∃ p20 : Option Addr, ∃ w24 : World, (Instr.range 104 (.map m19)).run Tryz.prog w23 = .ok (.pointer p20) w24 /\
        F113_4 (fun e w' => ∃ f' : Fld, e = .returned (fldA f') /\ In64 f'.kind /\ In64 f'.width /\ f'.name.size <= 10 /\ Pu w w' /\ ∀ f, fieldB f = true -> fieldS f = d -> f' = f) t (some (⟨w.heap.size, 0, none⟩ : Addr)) (some (⟨r3, 0, none⟩ : Addr)) p20 [] w24 := fun {wz r3} hz hr3 hb3 => by
    rw [wrap_in (n := ((b11.toNat : Nat) : Int)) (by omega) (by omega)] at hb3
    refine (kinds_c wz).mono ?_
    rintro e w3 ⟨m, rfl, hm, hml, hp3⟩
    obtain ⟨w4, e4, hit4, hp4, hs4⟩ := hm.range (t := 104) u104
    refine ⟨some m, rfl, _, w4, e4, ?_⟩
    have b3 := (hp3.trans hp4).blk hb3
    have l3 : r3 < wz.heap.size := blk_lt hb3
    have z3 := hp3.size
    have zz := hz.size
    have p4 : Pu w2 w4 := (hz.trans hp3).trans hp4
    refine loopDown (σ := Unit) kindsL.length (fun n _ w' => ∃ (todo : List (Int × K5)) (kd : Int), todo.length = n /\ (∀ p ∈ todo, p ∈ kindsL) /\ IterAt w' intV kindV w3.heap.size m kindsL todo /\ KindSo b10 kd todo /\ w4.heap.size <= w'.heap.size /\ Pu w2 w' /\
      w'.heap[r3]? = some (.cells #[.string (bs (trim0 (d.take 10))), .int .i64 kd, .int .i64 ((b11.toNat : Nat) : Int), .bool (((b12.toNat : Nat) : Int) == 1)] 23)) ⟨kindsL, 0, rfl, fun p hp => hp, hit4, ⟨fun p hp _ => .inl hp, .inl rfl⟩, Nat.le_refl _, p4, b3⟩ ?_
    rintro n J _ w5 ⟨todo, kd, hn, hall, hit, ⟨hk1, hk2⟩, hz5, hp5, hb5⟩ hJ
    rcases hit.next (P := Tryz.prog) 0 with ⟨hnil, hr⟩ | ⟨p, hpm, w6, hr, hf6, hs6, hit6, hen⟩
    · refine .inl ⟨w5, hr, ?_⟩
      subst hnil
      refine ⟨_, cl hb5 0, _, cl hb5 1, _, cl hb5 2, _, cl hb5 3, stA_fill (hp5.blk (hp2.blk hb1)) s23.symm rfl rfl fun w6 hb6 hf6 hs6 => ⟨_, cl hb6 0, _, cl hb6 1, _, cl hb6 2, _, cl hb6 3, ⟨bs (trim0 (d.take 10)), kd, ((b11.toNat : Nat) : Int), ((b12.toNat : Nat) : Int) == 1⟩, rfl, ?_, ⟨by show _ <= ((b11.toNat : Nat) : Int); omega, by show ((b11.toNat : Nat) : Int) <= _; omega⟩, hnm, (hp02.trans hp5).andNew hf6 fun i hi => by omega, fun f hf hd2 => ?_⟩⟩
      · rcases hk2 with h | ⟨p, hp, _, h⟩
        · show In64 kd; rw [h]; exact ⟨by decide, by decide⟩
        · show In64 kd; rw [h]; exact kinds64 p hp
      · obtain ⟨e1, e2, e3, e4'⟩ := entry_parts hf hd2
        obtain ⟨_, _, K, hK, hKl⟩ := field_parts hf
        rw [h10] at e2; rw [h11] at e3; rw [h12] at e4'
        have e2 := Option.some.inj e2
        have e3 := Option.some.inj e3
        have e4' := Option.some.inj e4'
        have hwf := field_width hf
        rcases hk1 (f.kind, K) (kindsL_look hK) (by rw [e2]; exact hKl) with h | h
        · cases h
        obtain ⟨fn, fk, fw, fnl⟩ := f
        simp only at *
        congr 1
        · rw [e1, trim0_zeros _ (name_bytes hf), list_bs]
        · rw [e3]; exact byteI_in (by omega)
        · rw [e4']; cases fnl <;> decide
    · refine .inr ⟨_, _, w6, hr, _, _, w6, hen, ?_⟩
      simp only [dInt_mk, kindV, dAgg_mk, dHd_mk, dNil_mk]
      have hb6 := hf6.blk hb5 (show ¬ r3 = w3.heap.size by omega)
      have hp6 : Pu w2 w6 := hp5.andNew hf6 fun i hi => by omega
      refine boxA rfl s102.symm (ones5 rfl rfl) fun w7 hp7 hs7 hb7 => dwE_intro fun w8 hp8 _ => ?_
      have p8 := (hp6.trans hp7).trans hp8
      obtain ⟨a10, ha10, hc10⟩ := (ht.pu (hp02.trans p8)).get _ _ h10
      have b8 := (hp7.trans hp8).blk hb6
      have hit8 := hit6.fr (Fr.pu (hp7.trans hp8) : Fr (fun _ => False) w6 w8) (fun h => h) (fun h => h)
      have hlen := AL.length_del hpm hit.nodup
      have hperm := AL.perm_del hpm hit.nodup
      have hsub2 : ∀ q ∈ AL.del todo p.1, q ∈ kindsL := fun q hq => hall q (hperm.symm.subset (List.mem_cons_of_mem _ hq))
      have z6 := hs6
      have z78 := (hp7.trans hp8).size
      refine ⟨_, cl0 (hp8.blk hb7), a10, ha10, by omega, by omega, _, hc10, Br.of (fun q => ?_) (fun q => ?_)⟩
      · have hq : p.2.letter = ((b10.toNat : Nat) : Int) := btrue q
        show st1 ((⟨r3, 0, none⟩ : Addr).add 1) _ w8 _
        rw [add_def]
        refine st1_intro b8 (by simp) fun w9 hw9 hb9 => ?_
        have hf9 : Fr (· = r3) w8 w9 := by rw [hw9]; exact Fr.cell w8 _ _ _
        have z9 : w9.heap.size = w8.heap.size := by rw [hw9]; simp
        refine hJ _ () w9 (by omega) ⟨AL.del todo p.1, p.1, rfl, hsub2, hit8.fr hf9 (by omega) (by omega), ⟨fun q' hq' hl' => .inr (letters_apart p (hall p hpm) q' hq' (by rw [hq, hl'])), .inr ⟨p, hall p hpm, hq, rfl⟩⟩, by omega, p8.andNew hf9 fun i hi => by omega, hb9⟩
      · have hq : p.2.letter ≠ ((b10.toNat : Nat) : Int) := bfalse q
        refine hJ _ () w8 (by omega) ⟨AL.del todo p.1, kd, rfl, hsub2, hit8, ⟨fun q' hq' hl' => ?_, hk2⟩, by omega, p8, b8⟩
        rcases hk1 q' hq' hl' with h | h
        · rcases List.mem_cons.1 (hperm.subset h) with h | h
          · subst h; exact absurd hl' hq
          · exact .inl h
        · exact .inr h
  refine ⟨fun u => Pu w2 u, Pu.refl _, by omega, by omega, by omega, a11, ha11, by omega, by omega, _, fun u hu => hu.cell hc11, a12, ha12, by omega, by omega, _, fun u hu => hu.cell hc12, ⟨bs (d.take 10), w2, hsub (Pu.refl _), Pu.refl _, (trim w2).mono ?_, alB fun w3 hp3 hb3 => ⟨hp3, (trim w3).mono ?_⟩⟩, alB fun w3 hp3 hb3 => ⟨hp3, bs (d.take 10), w3, hsub hp3, hp3, (trim w3).mono ?_⟩⟩
  · rintro e w3 ⟨rfl, hp3⟩
    exact ⟨_, rfl, hp3, alB fun w4 hp4 hb4 => ⟨hp3.trans hp4, stA_fill hb4 s23.symm rfl rfl fun w5 hb5 hf5 hs5 => main ((hp3.trans hp4).andNew hf5 fun i hi => by have := hp3.size; omega) (hp3.size) hb5⟩⟩
  · rintro e w4 ⟨rfl, hp4⟩
    exact ⟨_, rfl, hp3.trans hp4, stA_fill (hp4.blk hb3) s23.symm rfl rfl fun w5 hb5 hf5 hs5 => main ((hp3.trans hp4).andNew hf5 fun i hi => by omega) (Nat.le_refl _) hb5⟩
  · rintro e w4 ⟨rfl, hp4⟩
    exact ⟨_, rfl, hp3.trans hp4, stA_fill (hp4.blk hb3) s23.symm rfl rfl fun w5 hb5 hf5 hs5 => main ((hp3.trans hp4).andNew hf5 fun i hi => by omega) (Nat.le_refl _) hb5⟩
end Go.Proofs.YtecmfdfhpldmmaaGreatDoor
