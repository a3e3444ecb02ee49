import Derived.Test.YtlogipcgejfnnaaDoorLyOwB
import Derived.Test.YtlogipcgejfnnaaDoorLyPrA
import Derived.Test.YtlogipcgejfnnaaDoorShTwentySeven
import Derived.Test.YtlogipcgejfnnaaDoorLyPrB
import Derived.Test.YtlogipcgejfnnaaDoorShSeventeen
/- Lex: the text of tokens, as both packages make it. No condition but those stated. -/
set_option maxRecDepth 100000
set_option linter.unusedVariables false
set_option linter.unusedSimpArgs false
namespace Go.Proofs.YtlogipcgejfnnaaDoor
open Go.Sh Go.Sh.Lx Go.RowKit
variable {w0 w w' : World}
def writL (k : Int) (x : List UInt8) : List UInt8 :=
  if k = 2 then (if x.contains 34 then 39 :: (x ++ [39]) else 34 :: (x ++ [34]))
  else if k = 3 then (if x.length ≠ 8 then 123 :: (x ++ [125]) else [123, 94] ++ x.take 4 ++ [45] ++ (x.drop 4).take 2 ++ [45] ++ x.drop 6 ++ [125])
  else x
def writS (t : Tok) : List UInt8 := writL t.kind t.text.data.toList
theorem writS_bs (k a : Int) (x : List UInt8) : writS ⟨k, a, bs x⟩ = writL k x := by unfold writS; rw [bs_list]
def joinS : Bool -> List Tok -> List UInt8
  | _, [] => []
  | g, t :: l => if t.kind = 5 then 10 :: joinS false l else (if g then [32] else []) ++ writS t ++ joinS true l
theorem writS_len (t : Tok) : (writS t).length <= t.text.size + 5 := by
  have hs : t.text.data.toList.length = t.text.size := size_list t.text
  unfold writS writL
  split
  · split <;> (simp only [List.length_cons, List.length_append, List.length_nil]; omega)
  · split
    · split
      · simp only [List.length_cons, List.length_append, List.length_nil]; omega
      · rename_i h8
        have h8 : t.text.data.toList.length = 8 := by simpa using h8
        simp only [List.length_append, List.length_cons, List.length_nil, List.length_take, List.length_drop]; omega
    · omega
def sizeT (l : List Tok) : Nat := (l.map fun t => t.text.size + 6).sum
theorem joinS_len : ∀ (g : Bool) (l : List Tok), (joinS g l).length <= sizeT l
  | _, [] => by simp [joinS, sizeT]
  | g, t :: l => by
    have h1 := joinS_len false l
    have h2 := joinS_len true l
    have h3 := writS_len t
    unfold joinS
    have hs : sizeT (t :: l) = t.text.size + 6 + sizeT l := by unfold sizeT; simp
    rw [hs]
    split
    · simp; omega
    · rw [List.length_append, List.length_append]
      cases g <;> simp <;> omega
theorem text_bs (s : ByteArray) : ∃ l, s = bs l /\ s.data.toList = l := ⟨s.data.toList, (list_bs s).symm, rfl⟩
theorem contains_index (l : List UInt8) (c : UInt8) : decide (0 <= Lib.indexByte l c) = l.contains c := by
  rw [indexByte_tw]
  by_cases h : (l.takeWhile fun b => !decide (b = c)).length < l.length
  · rw [if_pos h, decide_eq_true (by omega)]
    obtain ⟨x, hx⟩ := at_k h
    have h2 := tw_end (f := fun b => !decide (b = c)) hx
    have h3 : x = c := by simpa using h2
    have : c ∈ l := by rw [← h3]; exact List.mem_of_getElem? hx
    exact (by simpa using this)
  · rw [if_neg h, decide_eq_false (by omega)]
    symm
    have hle := tw_le (fun b => !decide (b = c)) l
    have hall : ∀ x ∈ l, x ≠ c := fun x hx e => by
      obtain ⟨j, hj⟩ := List.mem_iff_getElem?.1 hx
      have hjl := (List.getElem?_eq_some_iff.1 hj).1
      obtain ⟨y, hy, hf⟩ := tw_lt (f := fun b => !decide (b = c)) (l := l) (k := j) (by omega)
      rw [hj] at hy; cases hy
      rw [e] at hf; simp at hf
    simp only [List.contains_eq_mem, decide_eq_false_iff_not]
    intro hm; exact hall c hm rfl
theorem quote_c (l : List UInt8) (w : World) : Calls Tryd.prog 57 #[.string (bs l), .string (⟨#[34]⟩ : ByteArray)] w fun e w' => e = .returned (.bool (l.contains 34)) /\ w' = w := by
  refine (Any.strings_Contains_one Tryd.lays144 (bs l) 34 w).mono ?_
  rintro e w' ⟨rfl, rfl⟩
  rw [bs_list, contains_index]; exact ⟨rfl, rfl⟩
theorem cat_bs (a b : List UInt8) : ((bs a).size + (bs b).size : Nat) = a.length + b.length := by rw [bs_size, bs_size]
theorem date_text {x : List UInt8} (h8 : x.length = 8) : (((((((⟨#[123, 94]⟩ : ByteArray) ++ ((bs x).extract 0 ((4 : Int).toNat))) ++ (⟨#[45]⟩ : ByteArray)) ++ ((bs x).extract ((4 : Int).toNat) ((6 : Int).toNat))) ++ (⟨#[45]⟩ : ByteArray)) ++ ((bs x).extract ((6 : Int).toNat) (bs x).size)) ++ (⟨#[125]⟩ : ByteArray)) =
    bs ([123, 94] ++ x.take 4 ++ [45] ++ (x.drop 4).take 2 ++ [45] ++ x.drop 6 ++ [125]) := by
  have e1 : (⟨#[123, 94]⟩ : ByteArray) = bs [123, 94] := rfl
  have e2 : (⟨#[45]⟩ : ByteArray) = bs [45] := rfl
  have e3 : (⟨#[125]⟩ : ByteArray) = bs [125] := rfl
  have i4 : (4 : Int).toNat = 4 := rfl
  have i6 : (6 : Int).toNat = 6 := rfl
  rw [e1, e2, e3, i4, i6, extract_take, extract_take, extract_drop, List.drop_zero, List.drop_take, bs_append, bs_append, bs_append, bs_append, bs_append, bs_append]
theorem date_sizes {x : List UInt8} (h8 : x.length = 8) :
    (((⟨#[123, 94]⟩ : ByteArray).size + ((bs x).extract 0 ((4 : Int).toNat)).size : Nat) : Int) <= 9223372036854775807 /\
    ((((⟨#[123, 94]⟩ : ByteArray) ++ ((bs x).extract 0 ((4 : Int).toNat))).size + (⟨#[45]⟩ : ByteArray).size : Nat) : Int) <= 9223372036854775807 /\
    (((((⟨#[123, 94]⟩ : ByteArray) ++ ((bs x).extract 0 ((4 : Int).toNat))) ++ (⟨#[45]⟩ : ByteArray)).size + ((bs x).extract ((4 : Int).toNat) ((6 : Int).toNat)).size : Nat) : Int) <= 9223372036854775807 /\
    ((((((⟨#[123, 94]⟩ : ByteArray) ++ ((bs x).extract 0 ((4 : Int).toNat))) ++ (⟨#[45]⟩ : ByteArray)) ++ ((bs x).extract ((4 : Int).toNat) ((6 : Int).toNat))).size + (⟨#[45]⟩ : ByteArray).size : Nat) : Int) <= 9223372036854775807 /\
    (((((((⟨#[123, 94]⟩ : ByteArray) ++ ((bs x).extract 0 ((4 : Int).toNat))) ++ (⟨#[45]⟩ : ByteArray)) ++ ((bs x).extract ((4 : Int).toNat) ((6 : Int).toNat))) ++ (⟨#[45]⟩ : ByteArray)).size + ((bs x).extract ((6 : Int).toNat) (bs x).size).size : Nat) : Int) <= 9223372036854775807 /\
    ((((((((⟨#[123, 94]⟩ : ByteArray) ++ ((bs x).extract 0 ((4 : Int).toNat))) ++ (⟨#[45]⟩ : ByteArray)) ++ ((bs x).extract ((4 : Int).toNat) ((6 : Int).toNat))) ++ (⟨#[45]⟩ : ByteArray)) ++ ((bs x).extract ((6 : Int).toNat) (bs x).size)).size + (⟨#[125]⟩ : ByteArray).size : Nat) : Int) <= 9223372036854775807 := by
  have e1 : (⟨#[123, 94]⟩ : ByteArray) = bs [123, 94] := rfl
  have e2 : (⟨#[45]⟩ : ByteArray) = bs [45] := rfl
  have e3 : (⟨#[125]⟩ : ByteArray) = bs [125] := rfl
  have i4 : (4 : Int).toNat = 4 := rfl
  have i6 : (6 : Int).toNat = 6 := rfl
  rw [e1, e2, e3, i4, i6, extract_take, extract_take, extract_drop, List.drop_zero, List.drop_take, bs_append, bs_append, bs_append, bs_append, bs_append]
  simp only [cat_bs, List.length_append, List.length_take, List.length_drop, List.length_cons, List.length_nil, h8]
  omega
theorem quoted_cat (q : UInt8) (x : List UInt8) : ((⟨#[q]⟩ : ByteArray) ++ bs x) ++ (⟨#[q]⟩ : ByteArray) = bs (q :: (x ++ [q])) := by
  have e : (⟨#[q]⟩ : ByteArray) = bs [q] := rfl
  rw [e, bs_append, bs_append]; rfl
theorem brace_cat (x : List UInt8) : ((⟨#[123]⟩ : ByteArray) ++ bs x) ++ (⟨#[125]⟩ : ByteArray) = bs (123 :: (x ++ [125])) := by
  have e : (⟨#[123]⟩ : ByteArray) = bs [123] := rfl
  have e2 : (⟨#[125]⟩ : ByteArray) = bs [125] := rfl
  rw [e, e2, bs_append, bs_append]; rfl
theorem cat1_le (a c : UInt8) (x : List UInt8) (hx : x.length <= 140737488355328) : (((⟨#[a]⟩ : ByteArray).size + (bs x).size : Nat) : Int) <= 9223372036854775807 /\ ((((⟨#[a]⟩ : ByteArray) ++ bs x).size + (⟨#[c]⟩ : ByteArray).size : Nat) : Int) <= 9223372036854775807 := by
  have e : (⟨#[a]⟩ : ByteArray) = bs [a] := rfl
  have e2 : (⟨#[c]⟩ : ByteArray) = bs [c] := rfl
  rw [e, e2, bs_append, cat_bs, cat_bs]
  simp only [List.length_append, List.length_cons, List.length_nil]
  omega
theorem written_c (t : Tok) (ht : t.text.size <= 140737488355328) (w : World) : Calls Tryd.prog 37 #[.agg (tokV t).toArray] w fun e w' => e = .returned (.string (bs (writS t))) /\ Pu w w' := by
  obtain ⟨k, a, s⟩ := t
  obtain ⟨x, rfl, hx⟩ := text_bs s
  have hxl : x.length <= 140737488355328 := by have h := ht; rw [bs_size] at h; exact h
  rw [writS_bs]
  unfold writL
  refine calls_by (F37_calls _ _ _ w) fun R hR => alB fun w1 hp1 hb1 => ⟨_, cl0 hb1, ?_⟩
  refine Br.of (fun q => ⟨_, cl hb1 2, (quote_c x w1).mono ?_⟩) (fun q => ?_)
  · have q := btrue q
    rw [if_pos q] at hR
    rintro e w2 ⟨rfl, rfl⟩
    refine ⟨_, rfl, Br.of (fun q2 => ?_) (fun q2 => ?_)⟩
    · rw [if_pos q2] at hR
      obtain ⟨z1, z2⟩ := cat1_le 39 39 x hxl
      exact ⟨_, cl hb1 2, z1, z2, hR _ _ ⟨by rw [quoted_cat], hp1⟩⟩
    · rw [if_neg (by rw [q2]; simp)] at hR
      obtain ⟨z1, z2⟩ := cat1_le 34 34 x hxl
      exact ⟨_, cl hb1 2, z1, z2, hR _ _ ⟨by rw [quoted_cat], hp1⟩⟩
  · have q := bfalse q
    rw [if_neg q] at hR
    refine Br.of (fun q2 => ⟨_, cl hb1 2, Br.of (fun q3 => ?_) (fun q3 => ?_)⟩) (fun q2 => ⟨_, cl hb1 2, hR _ _ ⟨?_, hp1⟩⟩)
    · have q2 := btrue q2
      have q3 := bntrue q3
      rw [bs_size_i] at q3
      rw [if_pos q2, if_pos (by omega)] at hR
      obtain ⟨z1, z2⟩ := cat1_le 123 125 x hxl
      exact ⟨_, cl hb1 2, z1, z2, hR _ _ ⟨by rw [brace_cat], hp1⟩⟩
    · have q2 := btrue q2
      have q3 := bnfalse q3
      rw [bs_size_i] at q3
      have h8 : x.length = 8 := by omega
      rw [if_pos q2, if_neg (by omega)] at hR
      refine dwE_intro fun w2 hp2 _ => ?_
      have hb2 := hp2.blk hb1
      have hsz : (bs x).size = 8 := by rw [bs_size]; exact h8
      obtain ⟨z1, z2, z3, z4, z5, z6⟩ := date_sizes h8
      refine ⟨_, cl hb2 2, by omega, by rw [hsz]; decide, by omega, z1, z2, _, cl hb2 2, by omega, by rw [hsz]; decide, by omega, by decide, z3, z4, _, cl hb2 2, Nat.le_refl _, by omega, by rw [hsz]; decide, z5, z6, hR _ _ ⟨?_, hp1.trans hp2⟩⟩
      rw [date_text h8]
    · rw [if_neg (bfalse q2)]
end Go.Proofs.YtlogipcgejfnnaaDoor

/- Lex: the text of tokens, and the source that is made of them, as both packages make it. The signs: what the library's tables of letters and of bytes lay. -/
set_option maxRecDepth 100000
set_option linter.unusedVariables false
set_option linter.unusedSimpArgs false
namespace Go.Proofs.YtlogipcgejfnnaaDoor
open Go.Sh Go.Sh.Lx Go.RowKit
variable {w0 w w' : World}
abbrev Bld (b : Nat) (acc : List UInt8) (w : World) : Prop := Lib.IsBuilderF 63 5 b b (Lib.byteCells acc) w
theorem Bld.pu {b : Nat} {acc : List UInt8} (h : Bld b acc w) (hp : Pu w w') : Bld b acc w' := by
  have one : ∀ {p}, Lib.BuilderAtF 63 5 b b p (Lib.byteCells acc) w -> Lib.BuilderAtF 63 5 b b p (Lib.byteCells acc) w' := by
    rintro p ⟨hB, v, hb, ⟨hl, ho⟩, hne⟩
    refine ⟨hB, v, hp.blk hb, ⟨hl, ?_⟩, hne⟩
    rcases ho with ho | ⟨g, cap, cur, fz, h1, h2, h3, h4⟩
    · exact .inl ho
    · exact .inr ⟨g, cap, cur, fz, h1, h2, hp.blk h3, h4⟩
  exact h.elim (fun h => .inl (one h)) (fun h => .inr (one h))
theorem Bld.new {b : Nat} (hb : w.heap[b]? = some (.cells #[.pointer none, .slice none 0 0] 63)) : Bld b [] w :=
  .inl ⟨Nat.le_refl _, .slice none 0 0, hb, ⟨rfl, .inl ⟨rfl, rfl⟩⟩, by simp [Value.ownBlock]⟩
theorem writeString_c {b : Nat} {acc : List UInt8} (s : List UInt8) (h : Bld b acc w) (hl : acc.length + s.length <= 140737488355328) (hB : b <= w.heap.size) :
    Calls Tryd.prog 36 #[.pointer (some ⟨b, 0, none⟩), .string (bs s)] w fun e w' => e = .returned (.tuple #[.int .i64 (s.length : Nat), .nilIface]) /\ Bld b (acc ++ s) w' /\ Below b w w' /\ Lib.OthersKept 5 (some b) w w' := by
  refine (Any.Builder_WriteString_k Tryd.lays166 Tryd.Builder_Extra_158 b b (Lib.byteCells acc) (bs s) w h (by rw [Lib.byteCells_length, bs_size]; exact hl) hB).mono ?_
  rintro e w' ⟨rfl, h1, h2, h3⟩
  refine ⟨by rw [bs_size], ?_, h2, h3⟩
  have e1 : Lib.byteCells (acc ++ s) = Lib.byteCells acc ++ Lib.strCells (bs s) := by
    unfold Lib.byteCells Lib.strCells; rw [List.map_append, bs_list]
  unfold Bld
  rw [e1]
  exact .inr h1
theorem writeByte_c {b : Nat} {acc : List UInt8} (x : UInt8) (h : Bld b acc w) (hl : acc.length + 1 <= 140737488355328) (hB : b <= w.heap.size) :
    Calls Tryd.prog 35 #[.pointer (some ⟨b, 0, none⟩), .int .u8 ((x.toNat : Nat) : Int)] w fun e w' => e = .returned .nilIface /\ Bld b (acc ++ [x]) w' /\ Below b w w' /\ Lib.OthersKept 5 (some b) w w' := by
  refine (Any.Builder_WriteByte_k Tryd.lays167 Tryd.Builder_Extra_158 b b (Lib.byteCells acc) ((x.toNat : Nat) : Int) w h (by rw [Lib.byteCells_length]; exact hl) hB).mono ?_
  rintro e w' ⟨rfl, h1, h2, h3⟩
  refine ⟨rfl, ?_, h2, h3⟩
  have e1 : Lib.byteCells (acc ++ [x]) = Lib.byteCells acc ++ [.int .u8 ((x.toNat : Nat) : Int)] := by
    unfold Lib.byteCells; rw [List.map_append]; rfl
  unfold Bld
  rw [e1]
  exact .inr h1
theorem builderString_c {b : Nat} {acc : List UInt8} (h : Bld b acc w) (hB : b <= w.heap.size) : Calls Tryd.prog 38 #[.pointer (some ⟨b, 0, none⟩)] w fun e w' => e = .returned (.string (bs acc)) /\ Below b w w' := by
  refine (Any.Builder_String_any_k Tryd.lays169 Tryd.Builder_Extra_158 b b acc w h hB).mono ?_
  rintro e w' ⟨rfl, _, h2, _⟩
  exact ⟨rfl, h2⟩
theorem Pu.low {b : Nat} (h : Pu w0 w) (hb : w0.heap.size <= b) (k : Below b w w') : Pu w0 w' := Below.trans h (k.mono hb)
def texts (l : List Tok) : Prop := ∀ t ∈ l, t.text.size <= 140737488355328
theorem joinS_drop {g : Bool} {l : List Tok} {k : Nat} {t : Tok} (h : l[k]? = some t) : joinS g (l.drop k) = if t.kind = 5 then 10 :: joinS false (l.drop (k + 1)) else (if g then [32] else []) ++ writS t ++ joinS true (l.drop (k + 1)) := by
  rw [drop_at h]; rfl
theorem joined_c {s : SV} {l : List Tok} (hs : RdSl w0 s l) (ht : texts l) (hz : sizeT l <= 140737488355328) : Calls Tryd.prog 19 #[.slice s.a s.len s.cap] w0 fun e w' => e = .returned (.string (bs (joinS false l))) /\ Pu w0 w' := by
  have hsl := hs.len
  have hlim := hs.lim
  have hjl := joinS_len false l
  refine calls_by (F19_calls _ w0) fun R hR => alB fun w1 hp1 hb1 => ?_
  obtain ⟨b, hb⟩ : ∃ b, b = w0.heap.size := ⟨_, rfl⟩
  rw [← hb] at hb1 ⊢
  refine loopUp l.length (fun k t w' => ∃ acc, t.2 = (k : Int) /\ Pu w0 w' /\ Bld b acc w' /\ b < w'.heap.size /\ acc ++ joinS t.1 (l.drop k) = joinS false l) ⟨[], rfl, hp1, Bld.new hb1, blk_lt hb1, rfl⟩ ?_
  rintro k J ⟨g, n⟩ w2 hk ⟨acc, rfl, hp2, hB, hlt, hacc⟩ hJ
  dsimp only at hacc ⊢
  refine Br.of (fun q => ?_) (fun q => ?_)
  · have q := dtrue q
    have hk2 : k < l.length := by omega
    obtain ⟨t, htk⟩ := at_k hk2
    have htt := ht t (List.mem_of_getElem? htk)
    obtain ⟨a, ha, h1, h2, _, c0, c1, c2⟩ := RdSl.tok (hs.pu hp2) htk
    rw [joinS_drop htk] at hacc
    refine ⟨a, ha, h1, h2, _, c0, _, c1, _, c2, alB fun w3 hp3 hb3 => ?_⟩
    refine stA_fill hb3 s49.symm rfl rfl fun w4 hb4 hf4 _ => ?_
    have hb4 : TokB w4 w2.heap.size t := hb4
    have hP24 : Pu w2 w4 := Pu.andNew hp3 hf4 (fun i hi => by rw [show i = _ from hi]; exact Nat.le_refl _)
    have hB4 := hB.pu hP24
    have hP4 := hp2.trans hP24
    have hz4 := hP24.size
    rw [wrap_in (by omega) (by omega)]
    refine ⟨_, cl0 hb4, Br.of (fun q5 => ?_) (fun q5 => ?_)⟩
    · have q5 := btrue q5
      rw [if_pos q5] at hacc
      have hlen := congrArg List.length hacc
      rw [List.length_append, List.length_cons] at hlen
      refine (writeByte_c 10 hB4 (by omega) (by omega)).mono ?_
      rintro e w5 ⟨rfl, hB5, hl5, _⟩
      exact ⟨_, rfl, hJ _ _ hk2 ⟨acc ++ [10], by dsimp only; omega, Pu.low hP4 (by omega) hl5, hB5, by have := hl5.size; omega, by rw [← hacc, List.append_assoc]; rfl⟩⟩
    · have q5 := bfalse q5
      rw [if_neg q5] at hacc
      have hlen := congrArg List.length hacc
      rw [List.length_append, List.length_append, List.length_append] at hlen
      refine Br.of (fun qg => ?_) (fun qg => ?_)
      · subst qg
        have hlen : acc.length + (1 + (writS t).length + (joinS true (l.drop (k + 1))).length) = (joinS false l).length := hlen
        refine (writeByte_c 32 hB4 (by omega) (by omega)).mono ?_
        rintro e w5 ⟨rfl, hB5, hl5, ho5⟩
        have hP5 := Pu.low hP4 (by omega) hl5
        have hz5 := hl5.size
        have hb5 : TokB w5 w2.heap.size t := ho5 _ _ hb4 (by simp; omega) (fun c fz e => by cases e)
        refine ⟨_, rfl, _, cl hb5 0, _, cl hb5 1, _, cl hb5 2, (written_c t htt w5).mono ?_⟩
        rintro e w6 ⟨rfl, hp6⟩
        have hz6 := hp6.size
        refine ⟨_, rfl, (writeString_c (writS t) (hB5.pu hp6) (by simp; omega) (by omega)).mono ?_⟩
        rintro e w7 ⟨rfl, hB7, hl7, _⟩
        refine ⟨_, _, rfl, hJ _ _ hk2 ⟨_, by dsimp only; omega, Pu.low (hP5.trans hp6) (by omega) hl7, hB7, by have := hl7.size; omega, ?_⟩⟩
        rw [← hacc]; simp
      · subst qg
        have hlen : acc.length + (0 + (writS t).length + (joinS true (l.drop (k + 1))).length) = (joinS false l).length := hlen
        refine ⟨_, cl hb4 0, _, cl hb4 1, _, cl hb4 2, (written_c t htt w4).mono ?_⟩
        rintro e w6 ⟨rfl, hp6⟩
        have hz6 := hp6.size
        refine ⟨_, rfl, (writeString_c (writS t) (hB4.pu hp6) (by omega) (by omega)).mono ?_⟩
        rintro e w7 ⟨rfl, hB7, hl7, _⟩
        refine ⟨_, _, rfl, hJ _ _ hk2 ⟨_, by dsimp only; omega, Pu.low (hP4.trans hp6) (by omega) hl7, hB7, by have := hl7.size; omega, ?_⟩⟩
        rw [← hacc]; simp
  · have q := dfalse q
    rw [List.drop_eq_nil_of_le (by omega)] at hacc
    have hacc : acc = joinS false l := by rw [← hacc]; simp [joinS]
    refine (builderString_c hB (by omega)).mono ?_
    rintro e w3 ⟨rfl, hl3⟩
    exact ⟨_, rfl, hR _ _ ⟨by rw [hacc], Pu.low hp2 (by omega) hl3⟩⟩
def joinF (l : List Tok) : List UInt8 × Int := if (lexF (joinS false l)).2.2 ≠ 0 then ([], (lexF (joinS false l)).2.2) else if sameS (lexF (joinS false l)).1 l = false then ([], 1) else (joinS false l, 0)
theorem join_c (hL : Laid w) {s : SV} {l : List Tok} (hs : RdSl w s l) (ht : texts l) (hz : sizeT l <= 140737488355328) : Calls Tryd.prog 8 #[.slice s.a s.len s.cap] w fun e w' => e = .returned (.tuple #[.string (bs (joinF l).1), .int .i64 (joinF l).2]) /\ Pu w w' := by
  have hjl := joinS_len false l
  refine calls_by (F8_calls _ w) fun R hR => (joined_c hs ht hz).mono ?_
  rintro e w1 ⟨rfl, hp1⟩
  refine ⟨_, rfl, (lex_c (hL.pu hp1) (joinS false l) (by omega)).mono ?_⟩
  rintro e w2 ⟨hp2, t, rfl, hrd⟩
  have hp := hp1.trans hp2
  refine ⟨t, _, _, rfl, Br.of (fun q => hR _ _ ⟨?_, hp⟩) (fun q => (same_c hrd (hs.pu hp)).mono ?_)⟩
  · unfold joinF; rw [if_pos (bntrue q)]
  · rintro e w3 ⟨rfl, hp3⟩
    have q := bnfalse q
    refine ⟨_, rfl, Br.of (fun q2 => hR _ _ ⟨?_, hp.trans hp3⟩) (fun q2 => hR _ _ ⟨?_, hp.trans hp3⟩)⟩
    · unfold joinF; rw [if_neg (by simp [q]), if_pos (by simpa using q2)]
    · unfold joinF; have q2 : sameS (lexF (joinS false l)).1 l = true := by simpa using q2
      rw [if_neg (by simp [q]), if_neg (by simp [q2])]
end Go.Proofs.YtlogipcgejfnnaaDoor

/- Lex: the source that the statements look at first: its tokens, and the source of these. The signs: the library's tables of letters and of bytes. -/
set_option maxRecDepth 100000
set_option linter.unusedVariables false
set_option linter.unusedSimpArgs false
namespace Go.Proofs.YtlogipcgejfnnaaDoor
open Go.Sh Go.Sh.Lx Go.RowKit
variable {w0 w w' : World}
def lexN : Nat -> List UInt8 -> Nat -> Bool -> Option LexOut
  | 0, _, _, _ => none
  | _ + 1, [], p, line => some (if line then [endT p] else [], none)
  | n + 1, b :: r, p, line => match stepS b r line with
    | .go m => lexN n (r.drop m) (p + 1 + m) line
    | .eol => (lexN n r (p + 1) false).map fun o => ((if line then [endT p] else []) ++ o.1, o.2)
    | .tok k t m => (lexN n (r.drop m) (p + 1 + m) true).map fun o => (⟨k, (p : Int), bs t⟩ :: o.1, o.2)
    | .bad i => some ([], some (p + i))
theorem lexN_ok : ∀ (n : Nat) (l : List UInt8) (p : Nat) (line : Bool) (o : LexOut), lexN n l p line = some o -> lexS l p line = o
  | 0, _, _, _, _, h => by cases h
  | n + 1, [], p, line, o, h => by rw [lexS_nil]; exact Option.some.inj h
  | n + 1, b :: r, p, line, o, h => by
    have h : (match stepS b r line with
      | .go m => lexN n (r.drop m) (p + 1 + m) line
      | .eol => (lexN n r (p + 1) false).map fun o => ((if line then [endT p] else []) ++ o.1, o.2)
      | .tok k t m => (lexN n (r.drop m) (p + 1 + m) true).map fun o => (⟨k, (p : Int), bs t⟩ :: o.1, o.2)
      | .bad i => some ([], some (p + i))) = some o := h
    cases hs : stepS b r line with
    | go m => rw [hs] at h; rw [lexS_go hs]; exact lexN_ok n _ _ _ _ h
    | eol =>
      rw [hs] at h
      obtain ⟨o', ho, rfl⟩ := Option.map_eq_some_iff.1 h
      rw [lexS_eol hs, lexN_ok n _ _ _ _ ho]
    | tok k t m =>
      rw [hs] at h
      obtain ⟨o', ho, rfl⟩ := Option.map_eq_some_iff.1 h
      rw [lexS_tok hs, lexN_ok n _ _ _ _ ho]
    | bad i => rw [hs] at h; rw [lexS_bad hs]; exact Option.some.inj h
def srcK : List UInt8 := [120, 32, 61, 32, 49, 32, 59, 32, 38, 38, 32, 97, 10, 43, 32, 50]
def srcJ : List UInt8 := [88, 32, 61, 32, 49, 32, 43, 32, 50, 10]
def toksK : List Tok := [⟨0, 0, bs [88]⟩, ⟨4, 2, bs [61]⟩, ⟨1, 4, bs [49]⟩, ⟨4, 13, bs [43]⟩, ⟨1, 15, bs [50]⟩, endT 16]
def toksJ : List Tok := [⟨0, 0, bs [88]⟩, ⟨4, 2, bs [61]⟩, ⟨1, 4, bs [49]⟩, ⟨4, 6, bs [43]⟩, ⟨1, 8, bs [50]⟩, endT 9]
theorem lexK : lexS srcK 0 false = (toksK, none) := lexN_ok 20 _ _ _ _ (by decide +kernel)
theorem lexJ : lexS srcJ 0 false = (toksJ, none) := lexN_ok 20 _ _ _ _ (by decide +kernel)
theorem lexF_of {d : List UInt8} {l : List Tok} (hd : d.length <= 4000) (h : lexS d 0 false = (l, none)) (hl : l.length <= 1200) : lexF d = (l, ((l.length : Nat) : Int), 0) := by
  unfold lexF
  rw [if_neg (by omega), h]
  dsimp only
  rw [if_neg (by omega)]
theorem lexF_K : lexF srcK = (toksK, 6, 0) := lexF_of (by decide) lexK (by decide)
theorem lexF_J : lexF srcJ = (toksJ, 6, 0) := lexF_of (by decide) lexJ (by decide)
theorem join_K : joinS false toksK = srcJ := by decide +kernel
theorem joinF_K : joinF toksK = (srcJ, 0) := by
  unfold joinF
  rw [join_K, lexF_J, if_neg (by decide), if_neg (by have : sameS toksJ toksK = true := by decide +kernel
                                                     simp [this])]
theorem textsK : texts toksK := by unfold texts; decide +kernel
theorem known_c (hL : Laid w) : Calls Tryd.prog 6 #[] w fun e w' => e = .returned (.bool true) /\ Pu w w' := by
  refine calls_by (F6_calls w) fun R hR => (lex_c hL srcK (by decide)).mono ?_
  rintro e w1 ⟨hp1, s, rfl, hrd⟩
  rw [lexF_K] at hrd ⊢
  refine ⟨s, _, _, rfl, (join_c (hL.pu hp1) hrd textsK (by decide +kernel)).mono ?_⟩
  rintro e w2 ⟨rfl, hp2⟩
  rw [joinF_K]
  refine ⟨_, _, rfl, ?_⟩
  refine hR _ _ ⟨?_, hp1.trans hp2⟩
  rw [show (⟨#[88, 32, 61, 32, 49, 32, 43, 32, 50, 10]⟩ : ByteArray) = bs srcJ from rfl, beq_self_eq_true]
end Go.Proofs.YtlogipcgejfnnaaDoor

/- Lex: the reference's bytes, capitals and signs. No condition but those stated. -/
set_option maxRecDepth 100000
set_option linter.unusedVariables false
set_option linter.unusedSimpArgs false
namespace Go.Proofs.YtlogipcgejfnnaaDoor
open Go.Sh Go.Sh.Lx Go.RowKit
variable {w0 w w' : World}
theorem isLetter_c (x : UInt8) (w : World) : Calls Tryd.prog 49 #[.int .u8 ((x.toNat : Nat) : Int)] w fun e w' => e = .returned (.bool (letB x)) /\ w' = w := by
  refine calls_by (F49_calls _ w) fun R hR => Br.of (fun q => hR _ _ ⟨?_, rfl⟩) (fun q => Br.of (fun q2 => Br.of (fun q3 => hR _ _ ⟨?_, rfl⟩) (fun q3 => Br.of (fun q4 => hR _ _ ⟨?_, rfl⟩) (fun q4 => hR _ _ ⟨?_, rfl⟩))) (fun q2 => Br.of (fun q4 => hR _ _ ⟨?_, rfl⟩) (fun q4 => hR _ _ ⟨?_, rfl⟩)))
  all_goals unfold letB; congr 2
  · have := btrue q; symm; simp; omega
  · have := dtrue q2; have := dtrue q3; symm; simp; omega
  · have h1 := bfalse q; have h2 := dtrue q2; have h3 := dfalse q3; have h4 := dtrue q4
    rw [decide_eq_false (show ¬ x.toNat = 95 by omega), decide_eq_false (show ¬ x.toNat <= 122 by omega), decide_eq_true (show 65 <= x.toNat by omega)]
    simp only [Bool.false_or, Bool.true_and, Bool.and_false]; exact dec_eq (by omega)
  · have h1 := bfalse q; have h2 := dtrue q2; have h3 := dfalse q3; have h4 := dfalse q4
    symm; simp; omega
  · have h1 := bfalse q; have h2 := dfalse q2; have h4 := dtrue q4
    rw [decide_eq_false (show ¬ x.toNat = 95 by omega), decide_eq_false (show ¬ 97 <= x.toNat by omega), decide_eq_true (show 65 <= x.toNat by omega)]
    simp only [Bool.false_or, Bool.true_and, Bool.false_and]; exact dec_eq (by omega)
  · have h1 := bfalse q; have h2 := dfalse q2; have h4 := dfalse q4
    symm; simp; omega
theorem capital_c (x : UInt8) (w : World) : Calls Tryd.prog 41 #[.int .u8 ((x.toNat : Nat) : Int)] w fun e w' => e = .returned (.int .u8 (((capU x).toNat : Nat) : Int)) /\ w' = w := by
  refine calls_by (F41_calls _ w) fun R hR => Br.of (fun q => Br.of (fun q2 => hR _ _ ⟨?_, rfl⟩) (fun q2 => hR _ _ ⟨?_, rfl⟩)) (fun q => hR _ _ ⟨?_, rfl⟩)
  · have h1 := dtrue q; have h2 := dtrue q2
    have e : (capU x).toNat = x.toNat - 32 := by
      have : ∀ n : Nat, n < 256 -> 97 <= n -> n <= 122 -> (capU (UInt8.ofNat n)).toNat = n - 32 := by decide +kernel
      have h3 := this x.toNat x.toNat_lt (by omega) (by omega)
      rwa [UInt8.ofNat_toNat] at h3
    rw [e, IntKind.wrap_u8]
    congr 2; omega
  · have h2 := dfalse q2; unfold capU; rw [if_neg (by omega)]
  · have h2 := dfalse q; unfold capU; rw [if_neg (by omega)]
theorem u9s : Tryd.prog.underlying 9 = some .string := by kernel_rfl
theorem u70s : Tryd.prog.underlying 61 = some (.slice 5) := by kernel_rfl
theorem u5s : Tryd.prog.underlying 5 = some (.int .u8) := by kernel_rfl
theorem capitals_c (s : List UInt8) (hs : s.length <= 140737488355328) (w : World) : Calls Tryd.prog 27 #[.string (bs s)] w fun e w' => e = .returned (.string (bs (s.map capU))) /\ Pu w w' := by
  refine calls_by (F27_calls _ w) fun R hR => ?_
  obtain ⟨l, w1, hrun, hp1, hm⟩ := conv_mark (P := Tryd.prog) u9s u70s u5s (bs s) (by rw [bs_size]; exact hs) w
  rw [bs_list] at hm
  refine ⟨l, w1, hrun, ?_⟩
  have hl0 := hm.len
  refine loopUp s.length (fun k t w' => t = (k : Int) /\ Pu w w' /\ MRow 5 w w' l ((s.take k).map capU ++ s.drop k)) ⟨rfl, hp1, hm⟩ ?_
  rintro k J t w2 hk ⟨rfl, hp2, hm2⟩ hJ
  have hl := hm2.len
  have hlen : ((s.take k).map capU ++ s.drop k).length = s.length := by simp; omega
  refine Br.of (fun q => ?_) (fun q => ?_)
  · have q := dtrue q
    have hk2 : k < s.length := by omega
    obtain ⟨x, hx⟩ := at_k hk2
    have hgx : ((s.take k).map capU ++ s.drop k)[k]? = some x := by
      rw [List.getElem?_append_right (by simp; omega)]
      simp only [List.length_map, List.length_take, Nat.min_eq_left (Nat.le_of_lt hk2), Nat.sub_self]
      rw [get_drop]; simpa using hx
    obtain ⟨a, ha, hc⟩ := hm2.cell hgx
    refine ⟨a, ha, by omega, by omega, _, by rw [toNat_i]; exact hc, (capital_c x w2).mono ?_⟩
    rintro e w3 ⟨rfl, rfl⟩
    obtain ⟨a2, ha2, hst⟩ := hm2.st1 hp2 (j := k) (by omega) (capU x) (K := fun w6 => J (IntKind.i64.wrap ((k : Int) + 1)) w6) fun w6 hm6 hp6 => by
      rw [wrap_in (by omega) (by omega)]
      refine hJ _ _ hk2 ⟨by omega, hp6, ?_⟩
      have e : (((s.take k).map capU ++ s.drop k)).set k (capU x) = (s.take (k + 1)).map capU ++ s.drop (k + 1) := by
        rw [List.set_append_right _ _ (by simp; omega)]
        simp only [List.length_map, List.length_take, Nat.min_eq_left (Nat.le_of_lt hk2), Nat.sub_self]
        rw [drop_at hx, List.set_cons_zero, take_at hx, List.map_append, List.append_assoc]; rfl
      rw [e] at hm6; exact hm6
    exact ⟨_, rfl, a2, ha2, by omega, by omega, by rw [toNat_i]; exact hst⟩
  · have q := dfalse q
    obtain rfl : k = s.length := by omega
    have e : (s.take s.length).map capU ++ s.drop s.length = s.map capU := by rw [List.take_length, List.drop_length, List.append_nil]
    rw [e] at hm2
    exact ⟨_, w2, conv_text (P := Tryd.prog) u9s u70s u5s hm2, hR _ _ ⟨rfl, hp2⟩⟩
end Go.Proofs.YtlogipcgejfnnaaDoor

/- Lex (second seat): words and names, as both packages tell. No condition but those stated. -/
set_option maxRecDepth 100000
set_option linter.unusedVariables false
set_option linter.unusedSimpArgs false
namespace Go.Proofs.YtlogipcgejfnnaaDoor
open Go.Sh Go.Sh.Lx Go.RowKit
variable {w0 w w' : World}
def nmset : List UInt8 := [65, 66, 67, 68, 69, 70, 71, 72, 73, 74, 75, 76, 77, 78, 79, 80, 81, 82, 83, 84, 85, 86, 87, 88, 89, 90, 48, 49, 50, 51, 52, 53, 54, 55, 56, 57, 95]
def upB (b : UInt8) : Bool := letB b && !(decide (97 <= b.toNat) && decide (b.toNat <= 122))
def okAt (k : Nat) (b : UInt8) : Bool := upB b || (decide (0 < k) && digB b)
def isNameS (l : List UInt8) : Bool := decide (1 <= l.length) && (decide (l.length <= 10) && (l.all (nmset.contains ·) && !(l.take 1).all digB))
theorem nm_eq (b : UInt8) : nmset.contains b = (upB b || digB b) /\ (upB b && digB b) = false := by
  have : ∀ n : Nat, n < 256 -> nmset.contains (UInt8.ofNat n) = (upB (UInt8.ofNat n) || digB (UInt8.ofNat n)) /\ (upB (UInt8.ofNat n) && digB (UInt8.ofNat n)) = false := by decide +kernel
  have h := this b.toNat b.toNat_lt
  rwa [UInt8.ofNat_toNat] at h
theorem isName_no {l : List UInt8} {k : Nat} {x : UInt8} (hx : l[k]? = some x) (h : okAt k x = false) : isNameS l = false := by
  obtain ⟨h1, h2⟩ := nm_eq x
  unfold okAt at h
  have hu : upB x = false := by cases hh : upB x with
    | false => rfl
    | true => rw [hh] at h; simp at h
  rw [hu] at h h1
  unfold isNameS
  by_cases hd : digB x = true
  · rw [hd] at h
    have hk : k = 0 := by simp at h; omega
    subst hk
    have : (l.take 1).all digB = true := by
      cases l with
      | nil => simp at hx
      | cons a r => have hx : a = x := by simpa using hx
                    subst hx; simp [hd]
    rw [this]; simp
  · have hd : digB x = false := by simpa using hd
    rw [hd] at h1
    have : l.all (nmset.contains ·) = false := by
      rw [List.all_eq_false]
      exact ⟨x, List.mem_of_getElem? hx, by rw [h1]; simp⟩
    rw [this]; simp
theorem isName_yes {l : List UInt8} (h1 : 1 <= l.length) (h2 : l.length <= 10) (h : ∀ (j : Nat) (x : UInt8), l[j]? = some x -> okAt j x = true) : isNameS l = true := by
  unfold isNameS
  rw [decide_eq_true h1, decide_eq_true h2]
  have ha : l.all (nmset.contains ·) = true := List.all_eq_true.2 fun x hx => by
    obtain ⟨j, hj⟩ := List.getElem?_of_mem hx
    have := h j x hj
    rw [(nm_eq x).1]
    unfold okAt at this
    cases hu : upB x with
    | true => rfl
    | false => rw [hu] at this; simp at this; rw [this.2]; rfl
  have hf : (l.take 1).all digB = false := by
    cases l with
    | nil => simp at h1
    | cons a r =>
      have := h 0 a rfl
      unfold okAt at this
      have hu : upB a = true := by simpa using this
      have := (nm_eq a).2
      rw [hu] at this
      simpa using this
  rw [ha, hf]; rfl
theorem name_c (l : List UInt8) (w : World) : Calls Tryd.prog 14 #[.string (bs l)] w fun e w' => e = .returned (.bool (isNameS l)) /\ Pu w w' := by
  refine calls_by (F14_calls _ w) fun R hR => ?_
  rw [F14_1, toList_nil]
  refine Br.of (fun q => hR _ _ ⟨?_, Pu.refl _⟩) (fun q => Br.of (fun q1 => hR _ _ ⟨?_, Pu.refl _⟩) (fun q1 => ?_))
  · have q := dtrue q
    rw [bs_size] at q
    unfold isNameS; rw [decide_eq_false (by omega)]; rfl
  · have q1 := dtrue q1
    rw [bs_size] at q1
    unfold isNameS; rw [decide_eq_false (p := l.length <= 10) (by omega)]; simp
  have q := dfalse q
  have q1 := dfalse q1
  rw [bs_size] at q q1
  obtain ⟨x, r, rfl⟩ : ∃ x r, l = x :: r := by
    cases l with
    | nil => simp at q
    | cons x r => exact ⟨x, r, rfl⟩
  have h0 : (bs (x :: r))[((0 : Int)).toNat]? = some x := byte_list (by rw [bs_list]; rfl)
  have hlen1 : 1 <= (x :: r).length := by simp
  have hlen2 : (x :: r).length <= 10 := by omega
  have tr : ¬ (48 <= x.toNat /\ x.toNat <= 57) -> Calls Tryd.prog 30 #[.string (bs (x :: r)), .string (⟨#[65, 66, 67, 68, 69, 70, 71, 72, 73, 74, 75, 76, 77, 78, 79, 80, 81, 82, 83, 84, 85, 86, 87, 88, 89, 90, 48, 49, 50, 51, 52, 53, 54, 55, 56, 57, 95]⟩ : ByteArray)] w fun e w4 =>
      ∃ s21 : ByteArray, e = .returned (.string s21) /\ R (.returned (.bool (s21.toList == (⟨#[]⟩ : ByteArray).toList))) w4 := fun hnd => by
    refine (Any.strings_Trim_laid Tryd.lays160 u110 (bs (x :: r)) ⟨#[65, 66, 67, 68, 69, 70, 71, 72, 73, 74, 75, 76, 77, 78, 79, 80, 81, 82, 83, 84, 85, 86, 87, 88, 89, 90, 48, 49, 50, 51, 52, 53, 54, 55, 56, 57, 95]⟩ w (by rw [bs_size]; omega) (by decide) (ascii_of_all (by decide))).mono ?_
    rintro e w4 ⟨rfl, hp⟩
    refine ⟨_, rfl, hR _ _ ⟨?_, hp⟩⟩
    congr 2
    have h1 : ((ByteArray.mk (Lib.trimS (bs (x :: r)).data.toList nmset).toArray).size = 0) ↔ (x :: r).all (nmset.contains ·) = true := by
      rw [bs_list, ← trimS_nil]; simp [ByteArray.size]
    rw [toList_nil]
    have hnd2 : digB x = false := digB_out hnd
    unfold isNameS
    rw [decide_eq_true hlen1, decide_eq_true hlen2]
    simp only [Bool.true_and, List.take_succ_cons, List.take_zero, List.all_cons, List.all_nil, hnd2, Bool.false_and, Bool.not_false, Bool.and_true]
    rw [Bool.eq_iff_iff, decide_eq_true_iff]; exact h1
  refine ⟨x, by omega, h0, Br.of (fun q2 => ⟨x, by omega, h0, Br.of (fun q3 => hR _ _ ⟨?_, Pu.refl _⟩) (fun q3 => tr (by have := dfalse q3; omega))⟩) (fun q2 => tr (by have := dfalse q2; omega))⟩
  have q2 := dtrue q2
  have q3 := dtrue q3
  have hd : digB x = true := by unfold digB; simp; omega
  unfold isNameS
  simp [hd]
theorem isWord_c (l : List UInt8) (w : World) : Calls Tryd.prog 31 #[.string (bs l), .int .i64 10] w fun e w' => e = .returned (.bool (isNameS l)) /\ Pu w w' := by
  refine calls_by (F31_calls _ _ w) fun R hR => Br.of (fun q => hR _ _ ⟨?_, Pu.refl _⟩) (fun q => Br.of (fun q1 => hR _ _ ⟨?_, Pu.refl _⟩) (fun q1 => ?_))
  · have q := dtrue q
    rw [bs_size] at q
    unfold isNameS; rw [decide_eq_false (by omega)]; rfl
  · have q1 := dtrue q1
    rw [bs_size] at q1
    unfold isNameS; rw [decide_eq_false (p := l.length <= 10) (by omega)]; simp
  have q := dfalse q
  have q1 := dfalse q1
  rw [bs_size] at q q1
  refine loopUp l.length (fun k n w' => n = (k : Int) /\ Pu w w' /\ ∀ (j : Nat) (x : UInt8), j < k -> l[j]? = some x -> okAt j x = true) ⟨rfl, Pu.refl _, fun j x h => by omega⟩ ?_
  rintro k J n w1 hk ⟨rfl, hp1, hall⟩ hJ
  refine Br.of (fun q2 => ?_) (fun q2 => hR _ _ ⟨?_, hp1⟩)
  · have q2 := dtrue q2
    rw [bs_size] at q2
    have hk2 : k < l.length := by omega
    obtain ⟨x, hx⟩ := at_k hk2
    have hb : (bs l)[((k : Int)).toNat]? = some x := by rw [toNat_i]; exact byte_list (by rw [bs_list]; exact hx)
    have no : ∀ {w2 : World}, Pu w w2 -> okAt k x = false -> R (.returned (.bool false)) w2 := fun hp h => hR _ _ ⟨by rw [isName_no hx h], hp⟩
    have go : ∀ {w2 : World}, Pu w w2 -> okAt k x = true -> J (IntKind.i64.wrap ((k : Int) + 1)) w2 := fun hp h => by
      rw [wrap_in (by omega) (by omega)]
      refine hJ _ _ hk2 ⟨by omega, hp, fun j y hj hy => ?_⟩
      by_cases e : j = k
      · subst e; rw [hx] at hy; cases hy; exact h
      · exact hall j y (by omega) hy
    refine ⟨x, by omega, hb, (isLetter_c x w1).mono ?_⟩
    rintro e w2 ⟨rfl, rfl⟩
    refine ⟨_, rfl, Br.of (fun q3 => ?_) (fun q3 => Br.of (fun q4 => ?_) (fun q4 => no hp1 ?_))⟩
    · refine ⟨x, by omega, hb, Br.of (fun q4 => ⟨x, by omega, hb, Br.of (fun q5 => no hp1 ?_) (fun q5 => go hp1 ?_)⟩) (fun q4 => go hp1 ?_)⟩
      · have q4 := dtrue q4; have q5 := dtrue q5
        have hd : digB x = false := digB_out (by omega)
        unfold okAt upB; rw [hd, decide_eq_true (p := 97 <= x.toNat) (by omega), decide_eq_true (p := x.toNat <= 122) (by omega)]; simp
      · have q5 := dfalse q5
        unfold okAt upB; rw [q3, decide_eq_false (p := x.toNat <= 122) (by omega)]; simp
      · have q4 := dfalse q4
        unfold okAt upB; rw [q3, decide_eq_false (p := 97 <= x.toNat) (by omega)]; simp
    · have q4 := dtrue q4
      refine ⟨x, by omega, hb, (isDigit_c x w2).mono ?_⟩
      rintro e w3 ⟨rfl, hp3⟩
      refine ⟨_, rfl, Br.of (fun q5 => no (hp1.trans hp3) ?_) (fun q5 => ?_)⟩
      · have hd : digB x = false := by simpa using q5
        unfold okAt upB; rw [hd, q3]; simp
      · have hd : digB x = true := by simpa using q5
        have hd2 := digB_in hd
        refine ⟨x, by omega, hb, Br.of (fun q6 => by have := dtrue q6; omega) (fun q6 => go (hp1.trans hp3) ?_)⟩
        unfold okAt; rw [hd, decide_eq_true (by omega)]; simp
    · have q4 := dfalse q4
      have hk0 : k = 0 := by omega
      subst hk0
      unfold okAt upB; rw [q3]; simp
  · have q2 := dfalse q2
    rw [bs_size] at q2
    rw [isName_yes (by omega) (by omega) fun j x hx => hall j x (by have := (List.getElem?_eq_some_iff.1 hx).1; omega) hx]
theorem rname_c (l : List UInt8) (w : World) : Calls Tryd.prog 15 #[.string (bs l)] w fun e w' => e = .returned (.bool (isNameS l)) /\ Pu w w' := by
  refine calls_by (F15_calls _ w) fun R hR => (isWord_c l w).mono ?_
  rintro e w1 ⟨rfl, hp⟩
  exact ⟨_, rfl, hR _ _ ⟨rfl, hp⟩⟩
end Go.Proofs.YtlogipcgejfnnaaDoor

/- Lex (second seat): what a word stands for in a list, as both packages tell, and that the statement answers true. The signs: the library's tables of letters and of bytes. -/
set_option maxRecDepth 100000
set_option linter.unusedVariables false
set_option linter.unusedSimpArgs false
namespace Go.Proofs.YtlogipcgejfnnaaDoor
open Go.Sh Go.Sh.Lx Go.RowKit
variable {w0 w w' : World}
theorem upperW_c (s : List UInt8) (hs : s.length <= 140737488355328) (w : World) : Calls Tryd.prog 22 #[.string (bs s)] w fun e w' => e = .returned (.string (bs (s.map capU))) /\ Pu w w' := by
  refine calls_by (F22_calls _ w) fun R hR => ?_
  obtain ⟨l, w1, hrun, hp1, hm⟩ := conv_mark (P := Tryd.prog) u9s u70s u5s (bs s) (by rw [bs_size]; exact hs) w
  rw [bs_list] at hm
  refine ⟨l, w1, hrun, ?_⟩
  have hl0 := hm.len
  refine loopUp s.length (fun k t w' => t = (k : Int) /\ Pu w w' /\ MRow 5 w w' l ((s.take k).map capU ++ s.drop k)) ⟨rfl, hp1, hm⟩ ?_
  rintro k J t w2 hk ⟨rfl, hp2, hm2⟩ hJ
  have hl := hm2.len
  have hlen : ((s.take k).map capU ++ s.drop k).length = s.length := by simp; omega
  refine Br.of (fun q => ?_) (fun q => ?_)
  · have q := dtrue q
    have hk2 : k < s.length := by omega
    obtain ⟨x, hx⟩ := at_k hk2
    have hgx : ((s.take k).map capU ++ s.drop k)[k]? = some x := by
      rw [List.getElem?_append_right (by simp; omega)]
      simp only [List.length_map, List.length_take, Nat.min_eq_left (Nat.le_of_lt hk2), Nat.sub_self]
      rw [get_drop]; simpa using hx
    have hset : ∀ y, (((s.take k).map capU ++ s.drop k)).set k y = (s.take k).map capU ++ y :: s.drop (k + 1) := fun y => by
      rw [List.set_append_right _ _ (by simp; omega)]
      simp only [List.length_map, List.length_take, Nat.min_eq_left (Nat.le_of_lt hk2), Nat.sub_self]
      rw [drop_at hx, List.set_cons_zero]
    have hnext : (s.take (k + 1)).map capU ++ s.drop (k + 1) = (s.take k).map capU ++ capU x :: s.drop (k + 1) := by
      rw [take_at hx, List.map_append, List.append_assoc]; rfl
    have same : capU x = x -> J (IntKind.i64.wrap ((k : Int) + 1)) w2 := fun h => by
      rw [wrap_in (by omega) (by omega)]
      refine hJ _ _ hk2 ⟨by omega, hp2, ?_⟩
      rw [hnext, h, ← drop_at hx]; exact hm2
    obtain ⟨a, ha, hc⟩ := hm2.cell hgx
    refine ⟨a, ha, by omega, by omega, _, by rw [toNat_i]; exact hc, Br.of (fun q2 => Br.of (fun q3 => ?_) (fun q3 => same ?_)) (fun q2 => same ?_)⟩
    · have q2 := dtrue q2; have q3 := dtrue q3
      have e : (capU x).toNat = x.toNat - 32 := by
        have : ∀ n : Nat, n < 256 -> 97 <= n -> n <= 122 -> (capU (UInt8.ofNat n)).toNat = n - 32 := by decide +kernel
        have h3 := this x.toNat x.toNat_lt (by omega) (by omega)
        rwa [UInt8.ofNat_toNat] at h3
      have ew : Value.int .u8 (IntKind.u8.wrap (((x.toNat : Nat) : Int) - 32)) = .int .u8 (((capU x).toNat : Nat) : Int) := by
        rw [e, IntKind.wrap_u8]; congr 1; omega
      rw [ew]
      obtain ⟨a2, ha2, hst⟩ := hm2.st1 hp2 (j := k) (by omega) (capU x) (K := fun w6 => J (IntKind.i64.wrap ((k : Int) + 1)) w6) fun w6 hm6 hp6 => by
        rw [wrap_in (by omega) (by omega)]
        refine hJ _ _ hk2 ⟨by omega, hp6, ?_⟩
        rw [hnext, ← hset]; exact hm6
      exact ⟨a2, ha2, by omega, by omega, by rw [toNat_i]; exact hst⟩
    · have q3 := dfalse q3; unfold capU; rw [if_neg (by omega)]
    · have q2 := dfalse q2; unfold capU; rw [if_neg (by omega)]
  · have q := dfalse q
    obtain rfl : k = s.length := by omega
    have e : (s.take s.length).map capU ++ s.drop s.length = s.map capU := by rw [List.take_length, List.drop_length, List.append_nil]
    rw [e] at hm2
    exact ⟨_, w2, conv_text (P := Tryd.prog) u9s u70s u5s hm2, hR _ _ ⟨rfl, hp2⟩⟩
theorem RdSl.wd {s : SV} {l : List ByteArray} (h : RdSl w s l) {i : Nat} {x : ByteArray} (hx : l[i]? = some x) : ∃ a, s.a = some a /\ (0 : Int) <= (i : Int) /\ (i : Int) < ((s.len : Nat) : Int) /\ w.cell? (a.add (((i : Int)).toNat * 1)) = some (.string x) := by
  obtain ⟨a, ha, hi, hc⟩ := h.str hx
  exact ⟨a, ha, by omega, by omega, by rw [toNat_i]; exact hc⟩
theorem find_at {α : Type} {p : α -> Bool} : ∀ {l : List α} {k : Nat} {x : α}, l[k]? = some x -> p x = true -> (∀ (j : Nat) (y : α), j < k -> l[j]? = some y -> p y = false) -> l.find? p = some x
  | [], _, _, h, _, _ => by simp at h
  | a :: r, 0, x, h, hp, _ => by
    have h : a = x := by simpa using h
    rw [List.find?_cons, h, hp]
  | a :: r, k + 1, x, h, hp, hb => by
    rw [List.find?_cons, hb 0 a (by omega) rfl]
    exact find_at (by simpa using h) hp fun j y hj hy => hb (j + 1) y (by omega) (by simpa using hy)
theorem find_none {α : Type} {p : α -> Bool} {l : List α} (h : ∀ (j : Nat) (y : α), j < l.length -> l[j]? = some y -> p y = false) : l.find? p = none := by
  rw [List.find?_eq_none]
  intro x hx
  obtain ⟨j, hj⟩ := List.getElem?_of_mem hx
  have := h j x (List.getElem?_eq_some_iff.1 hj).1 hj
  simp [this]
def memB (x : ByteArray) (l : List ByteArray) : Bool := l.any fun y => decide (y = x)
theorem mem_yes {l : List ByteArray} {x y : ByteArray} {k : Nat} (hy : l[k]? = some y) (h : y = x) : memB x l = true := List.any_eq_true.2 ⟨y, List.mem_of_getElem? hy, decide_eq_true h⟩
theorem mem_no {l : List ByteArray} {x : ByteArray} (h : ∀ (j : Nat) (y : ByteArray), j < l.length -> l[j]? = some y -> y ≠ x) : memB x l = false := by
  unfold memB
  rw [List.any_eq_false]
  intro y hy
  obtain ⟨j, hj⟩ := List.getElem?_of_mem hy
  simpa using h j y (List.getElem?_eq_some_iff.1 hj).1 hj
theorem contains_c {s : SV} {l : List ByteArray} (hs : RdSl w s l) (x : ByteArray) : Calls Tryd.prog 23 #[.slice s.a s.len s.cap, .string x] w fun e w' => e = .returned (.bool (memB x l)) /\ Pu w w' := by
  have hsl := hs.len
  have hlim := hs.lim
  refine calls_by (F23_calls _ _ w) fun R hR => ?_
  have h39 : Calls Tryd.prog 39 #[.slice s.a s.len s.cap, .string x] w fun e w' => ∃ n : Int, e = .returned (.int .i64 n) /\ decide (n ≥ 0) = memB x l /\ Pu w w' := by
    refine calls_by (F39_calls _ _ w) fun R hR => ?_
    refine loopUp l.length (fun k n w' => n = (k : Int) /\ w' = w /\ ∀ (j : Nat) (y : ByteArray), j < k -> l[j]? = some y -> y ≠ x) ⟨rfl, rfl, fun j y h => by omega⟩ ?_
    rintro k J n w1 hk ⟨rfl, rfl, hall⟩ hJ
    refine Br.of (fun q => ?_) (fun q => ?_)
    · have q := dtrue q
      have hk2 : k < l.length := by omega
      obtain ⟨y, hy⟩ := at_k hk2
      obtain ⟨a, ha, h1, h2, hc⟩ := RdSl.wd hs hy
      refine ⟨a, ha, h1, h2, _, hc, ?_⟩
      rw [toList_beq]
      refine Br.of (fun q2 => hR _ _ ⟨_, rfl, ?_, Pu.refl _⟩) (fun q2 => ?_)
      · have q2 := dtrue q2
        rw [decide_eq_true (by omega), mem_yes hy q2.symm]
      · have q2 := dfalse q2
        rw [wrap_in (by omega) (by omega)]
        refine hJ _ _ hk2 ⟨by omega, rfl, fun j z hj hz => ?_⟩
        by_cases e : j = k
        · subst e; rw [hy] at hz; cases hz; exact fun h => q2 h.symm
        · exact hall j z (by omega) hz
    · have q := dfalse q
      refine hR _ _ ⟨_, rfl, ?_, Pu.refl _⟩
      rw [decide_eq_false (by omega), mem_no fun j y _ hy => hall j y (by have := (List.getElem?_eq_some_iff.1 hy).1; omega) hy]
  refine h39.mono ?_
  rintro e w1 ⟨n, rfl, hn, hp⟩
  exact ⟨_, rfl, hR _ _ ⟨by rw [hn], hp⟩⟩
theorem in_c {s : SV} {l : List ByteArray} (hs : RdSl w s l) (x : ByteArray) : Calls Tryd.prog 28 #[.slice s.a s.len s.cap, .string x] w fun e w' => e = .returned (.bool (memB x l)) /\ Pu w w' := by
  have hsl := hs.len
  have hlim := hs.lim
  refine calls_by (F28_calls _ _ w) fun R hR => ?_
  refine loopUp l.length (fun k n w' => n = (k : Int) /\ w' = w /\ ∀ (j : Nat) (y : ByteArray), j < k -> l[j]? = some y -> y ≠ x) ⟨rfl, rfl, fun j y h => by omega⟩ ?_
  rintro k J n w1 hk ⟨rfl, rfl, hall⟩ hJ
  refine Br.of (fun q => ?_) (fun q => ?_)
  · have q := dtrue q
    have hk2 : k < l.length := by omega
    obtain ⟨y, hy⟩ := at_k hk2
    obtain ⟨a, ha, h1, h2, hc⟩ := RdSl.wd hs hy
    refine ⟨a, ha, h1, h2, _, hc, ?_⟩
    rw [toList_beq]
    refine Br.of (fun q2 => hR _ _ ⟨?_, Pu.refl _⟩) (fun q2 => ?_)
    · have q2 := dtrue q2
      rw [mem_yes hy q2]
    · have q2 := dfalse q2
      rw [wrap_in (by omega) (by omega)]
      refine hJ _ _ hk2 ⟨by omega, rfl, fun j z hj hz => ?_⟩
      by_cases e : j = k
      · subst e; rw [hy] at hz; cases hz; exact q2
      · exact hall j z (by omega) hz
  · have q := dfalse q
    refine hR _ _ ⟨?_, Pu.refl _⟩
    rw [mem_no fun j y _ hy => hall j y (by have := (List.getElem?_eq_some_iff.1 hy).1; omega) hy]
def begB (u : List UInt8) (x : ByteArray) : Bool := decide (4 <= u.length) && decide (x.data.toList.take u.length = u)
def fullS (u : List UInt8) (l : List ByteArray) : ByteArray × Bool := if memB (bs u) l = true then (bs u, true) else match l.find? (begB u) with
  | some x => (x, true)
  | none => (⟨#[]⟩, false)
theorem fullS_in {u : List UInt8} {l : List ByteArray} (h : memB (bs u) l = true) : fullS u l = (bs u, true) := by unfold fullS; rw [if_pos h]
theorem fullS_some {u : List UInt8} {l : List ByteArray} {x : ByteArray} (h : memB (bs u) l = false) (hf : l.find? (begB u) = some x) : fullS u l = (x, true) := by unfold fullS; rw [if_neg (by rw [h]; decide), hf]
theorem fullS_none {u : List UInt8} {l : List ByteArray} (h : memB (bs u) l = false) (hf : l.find? (begB u) = none) : fullS u l = (⟨#[]⟩, false) := by unfold fullS; rw [if_neg (by rw [h]; decide), hf]
theorem beg_c (u : List UInt8) (x : ByteArray) {r : Nat} (hr : w.cell? (⟨r, 0, none⟩ : Addr) = some (.string (bs u))) : Calls Tryd.prog 25 #[.string x, .pointer (some ⟨r, 0, none⟩)] w fun e w' => e = .returned (.bool (begB u x)) /\ Pu w w' := by
  obtain ⟨d, rfl, _⟩ := text_bs x
  refine calls_by (F25_calls _ _ w) fun R hR => ⟨_, hr, Br.of (fun q => ⟨_, hr, (hasPrefix_c d u w).mono ?_⟩) (fun q => hR _ _ ⟨?_, Pu.refl _⟩)⟩
  · have q := dtrue q
    rw [bs_size] at q
    rintro e w1 ⟨rfl, rfl⟩
    refine ⟨_, rfl, hR _ _ ⟨?_, Pu.refl _⟩⟩
    unfold begB
    rw [bs_list, decide_eq_true (p := 4 <= u.length) (by omega), Bool.true_and]
  · have q := dfalse q
    rw [bs_size] at q
    unfold begB
    rw [decide_eq_false (p := 4 <= u.length) (by omega), Bool.false_and]
theorem full_c {s : SV} {l : List ByteArray} (hs : RdSl w s l) (d : List UInt8) (hd : d.length <= 140737488355328) : Calls Tryd.prog 12 #[.string (bs d), .slice s.a s.len s.cap] w fun e w' => e = .returned (.tuple #[.string (fullS (d.map capU) l).1, .bool (fullS (d.map capU) l).2]) /\ Pu w w' := by
  have hsl := hs.len
  have hlim := hs.lim
  refine calls_by (F12_calls _ _ w) fun R hR => alB fun w1 hp1 hb1 => ⟨_, cl0 hb1, (upperW_c d hd w1).mono ?_⟩
  rintro e w2 ⟨rfl, hp2⟩
  have hb2 := hp2.blk hb1
  refine ⟨_, rfl, st1_intro hb2 (by simp) fun w3 hw3 hb3 => ?_⟩
  have hf3 : Fr (· = w.heap.size) w2 w3 := by rw [hw3]; exact Fr.setCell w2 ⟨w.heap.size, 0, none⟩ _
  have hP3 : Pu w w3 := Pu.andNew (hp1.trans hp2) hf3 (fun i hi => by rw [show i = _ from hi]; exact Nat.le_refl _)
  have hc3 : w3.cell? (⟨w.heap.size, 0, none⟩ : Addr) = some (.string (bs (d.map capU))) := by rw [cl0 hb3]; rfl
  refine ⟨_, hc3, (contains_c (hs.pu hP3) _).mono ?_⟩
  rintro e w4 ⟨rfl, hp4⟩
  have hP4 := hP3.trans hp4
  have hc4 := hp4.cell hc3
  refine ⟨_, rfl, Br.of (fun q => ⟨_, hc4, hR _ _ ⟨?_, hP4⟩⟩) (fun q => ?_)⟩
  · rw [fullS_in q]
  have h24 : Calls Tryd.prog 24 #[.slice s.a s.len s.cap, .func (.func 25) #[] #[.pointer (some (⟨w.heap.size, 0, none⟩ : Addr))]] w4 fun e w' => Pu w4 w' /\ ((e = .returned (.int .i64 (-1)) /\ l.find? (begB (d.map capU)) = none) ∨ ∃ (k : Nat) (x : ByteArray), e = .returned (.int .i64 (k : Int)) /\ l[k]? = some x /\ l.find? (begB (d.map capU)) = some x) := by
    refine calls_by (F24_calls _ _ w4) fun R hR => ?_
    refine loopUp l.length (fun k n w' => n = (k : Int) /\ Pu w4 w' /\ ∀ (j : Nat) (y : ByteArray), j < k -> l[j]? = some y -> begB (d.map capU) y = false) ⟨rfl, Pu.refl _, fun j y h => by omega⟩ ?_
    rintro k J n w5 hk ⟨rfl, hp5, hall⟩ hJ
    refine Br.of (fun q1 => ?_) (fun q1 => ?_)
    · have q1 := dtrue q1
      have hk2 : k < l.length := by omega
      obtain ⟨y, hy⟩ := at_k hk2
      obtain ⟨a, ha, h1, h2, hc⟩ := RdSl.wd (hs.pu (hP4.trans hp5)) hy
      refine ⟨a, ha, h1, h2, _, hc, ?_⟩
      rw [fnE_mk]
      refine ⟨by kernel_rfl, (beg_c (d.map capU) y (hp5.cell hc4)).mono ?_⟩
      rintro e w6 ⟨rfl, hp6⟩
      refine ⟨_, rfl, Br.of (fun q2 => hR _ _ ⟨hp5.trans hp6, .inr ⟨k, y, rfl, hy, find_at hy q2 hall⟩⟩) (fun q2 => ?_)⟩
      rw [wrap_in (by omega) (by omega)]
      refine hJ _ _ hk2 ⟨by omega, hp5.trans hp6, fun j z hj hz => ?_⟩
      by_cases e : j = k
      · subst e; rw [hy] at hz; cases hz; exact q2
      · exact hall j z (by omega) hz
    · have q1 := dfalse q1
      exact hR _ _ ⟨hp5, .inl ⟨rfl, find_none fun j y _ hy => hall j y (by have := (List.getElem?_eq_some_iff.1 hy).1; omega) hy⟩⟩
  refine h24.mono ?_
  rintro e w6 ⟨hp6, ⟨rfl, hn⟩ | ⟨k, x, rfl, hx, hf⟩⟩
  · refine ⟨_, rfl, Br.t (decide_eq_true (by omega)) (hR _ _ ⟨?_, hP4.trans hp6⟩)⟩
    rw [fullS_none q hn]
  · obtain ⟨a, ha, h1, h2, hc⟩ := RdSl.wd (hs.pu (hP4.trans hp6)) hx
    refine ⟨_, rfl, Br.f (decide_eq_false (by omega)) ⟨a, ha, h1, h2, _, hc, hR _ _ ⟨?_, hP4.trans hp6⟩⟩⟩
    rw [fullS_some q hf]
theorem begins_c (x : ByteArray) (u : List UInt8) (w : World) (h4 : 4 <= u.length) : Calls Tryd.prog 29 #[.string x, .string (bs u)] w fun e w' => e = .returned (.bool (begB u x)) /\ Pu w w' := by
  obtain ⟨d, rfl, _⟩ := text_bs x
  refine calls_by (F29_calls _ _ w) fun R hR => ?_
  unfold F29_1
  rw [bs_size, bs_size]
  refine Br.of (fun q => ⟨by omega, by rw [Int.toNat_natCast]; have := dtrue q; omega, by omega, hR _ _ ⟨?_, Pu.refl _⟩⟩) (fun q => hR _ _ ⟨?_, Pu.refl _⟩)
  · rw [toList_beq]
    unfold begB
    rw [bs_list, decide_eq_true (p := 4 <= u.length) h4, Bool.true_and, Int.toNat_natCast]
    congr 2
    refine dec_eq ⟨fun h => ?_, fun h => bytes_ext (by rw [extract_list, bs_list, bs_list, List.drop_zero]; exact h)⟩
    have := congrArg (fun b : ByteArray => b.data.toList) h
    simpa [extract_list] using this
  · have q := dfalse q
    unfold begB
    rw [bs_list, decide_eq_false (p := d.take u.length = u) (fun h => by have := congrArg List.length h; rw [List.length_take] at this; omega), Bool.and_false]
theorem rfull_c {s : SV} {l : List ByteArray} (hs : RdSl w s l) (d : List UInt8) (hd : d.length <= 140737488355328) : Calls Tryd.prog 13 #[.string (bs d), .slice s.a s.len s.cap] w fun e w' => e = .returned (.tuple #[.string (fullS (d.map capU) l).1, .bool (fullS (d.map capU) l).2]) /\ Pu w w' := by
  have hsl := hs.len
  have hlim := hs.lim
  refine calls_by (F13_calls _ _ w) fun R hR => (capitals_c d hd w).mono ?_
  rintro e w1 ⟨rfl, hp1⟩
  refine ⟨_, rfl, (in_c (hs.pu hp1) _).mono ?_⟩
  rintro e w2 ⟨rfl, hp2⟩
  have hP2 := hp1.trans hp2
  refine ⟨_, rfl, Br.of (fun q => hR _ _ ⟨by rw [fullS_in q], hP2⟩) (fun q => ?_)⟩
  refine loopUp l.length (fun k n w' => n = (k : Int) /\ Pu w w' /\ ∀ (j : Nat) (y : ByteArray), j < k -> l[j]? = some y -> begB (d.map capU) y = false) ⟨rfl, hP2, fun j y h => by omega⟩ ?_
  rintro k J n w5 hk ⟨rfl, hp5, hall⟩ hJ
  refine Br.of (fun q1 => ?_) (fun q1 => ?_)
  · have q1 := dtrue q1
    have hk2 : k < l.length := by omega
    obtain ⟨y, hy⟩ := at_k hk2
    refine Br.of (fun q2 => ?_) (fun q2 => hR _ _ ⟨?_, hp5⟩)
    · have q2 := dtrue q2
      rw [bs_size] at q2
      obtain ⟨a, ha, h1, h2, hc⟩ := RdSl.wd (hs.pu hp5) hy
      refine ⟨a, ha, h1, h2, _, hc, (begins_c y (d.map capU) w5 (by omega)).mono ?_⟩
      rintro e w6 ⟨rfl, hp6⟩
      refine ⟨_, rfl, Br.of (fun q3 => ⟨a, ha, h1, h2, _, hp6.cell hc, hR _ _ ⟨?_, hp5.trans hp6⟩⟩) (fun q3 => ?_)⟩
      · rw [fullS_some q (find_at hy q3 hall)]
      · rw [wrap_in (by omega) (by omega)]
        refine hJ _ _ hk2 ⟨by omega, hp5.trans hp6, fun j z hj hz => ?_⟩
        by_cases e : j = k
        · subst e; rw [hy] at hz; cases hz; exact q3
        · exact hall j z (by omega) hz
    · have q2 := dfalse q2
      rw [bs_size] at q2
      rw [fullS_none q (find_none fun j y _ _ => by unfold begB; rw [decide_eq_false (p := 4 <= (d.map capU).length) (by omega), Bool.false_and])]
  · have q1 := dfalse q1
    refine hR _ _ ⟨?_, hp5⟩
    rw [fullS_none q (find_none fun j y _ hy => hall j y (by have := (List.getElem?_eq_some_iff.1 hy).1; omega) hy)]
theorem words_c (w : World) (hL : Laid w) (x : ByteArray) (hx : x.size <= 140737488355328) (s : SV) (l : List ByteArray) (hs : RdSl w s l) (hl : Lim.ok l) : Calls Tryd.prog 5 #[.string x, .slice s.a s.len s.cap] w fun e w' => e = .returned (.bool true) /\ Pu w w' := by
  obtain ⟨d, rfl, _⟩ := text_bs x
  rw [bs_size] at hx
  have hsl := hs.len
  have hlim := hs.lim
  refine calls_by (F5_calls _ _ w) fun R hR => ?_
  refine loopUp l.length (fun k t w' => t.2 = (k : Int) /\ w' = w) ⟨rfl, rfl⟩ ?_
  rintro k J ⟨n, i⟩ w1 hk ⟨rfl, rfl⟩ hJ
  dsimp only
  refine Br.of (fun q => ?_) (fun q => ?_)
  · have q := dtrue q
    have hk2 : k < l.length := by omega
    obtain ⟨y, hy⟩ := at_k hk2
    obtain ⟨a, ha, h1, h2, hc⟩ := RdSl.wd hs hy
    refine ⟨a, ha, h1, h2, _, hc, hJ _ _ hk2 ⟨?_, rfl⟩⟩
    show IntKind.i64.wrap ((k : Int) + 1) = _
    rw [wrap_in (by omega) (by omega)]; omega
  · have kn : ∀ {w2 : World}, Pu w1 w2 -> Calls Tryd.prog 6 #[] w2 fun e w3 => ∃ b11 : Bool, e = .returned (.bool b11) /\ R (.returned (.bool b11)) w3 := fun {w2} hp1 => by
      refine (known_c (hL.pu hp1)).mono ?_
      rintro e w3 ⟨rfl, hp⟩
      exact ⟨_, rfl, hR _ _ ⟨rfl, hp1.trans hp⟩⟩
    refine Br.of (fun _ => kn (Pu.refl _)) (fun _ => (full_c hs d hx).mono ?_)
    rintro e w2 ⟨rfl, hp2⟩
    refine ⟨_, _, rfl, (rfull_c (hs.pu hp2) d hx).mono ?_⟩
    rintro e w3 ⟨rfl, hp3⟩
    have hP3 := hp2.trans hp3
    refine ⟨_, _, rfl, ?_⟩
    rw [toList_beq]
    refine Br.of (fun _ => Br.of (fun _ => (name_c d w3).mono ?_) (fun q => by simp at q)) (fun q => by simp at q)
    rintro e w4 ⟨rfl, hp4⟩
    refine ⟨_, rfl, (rname_c d w4).mono ?_⟩
    rintro e w5 ⟨rfl, hp5⟩
    exact ⟨_, rfl, Br.of (fun _ => kn ((hP3.trans hp4).trans hp5)) (fun q => by simp at q)⟩
end Go.Proofs.YtlogipcgejfnnaaDoor
