import Derived.Test.YtlogipcgejfnnaaDoorLyOwB
import Derived.Test.YtlogipcgejfnnaaDoorLyPrA
/- Lex: the text of tokens, as both packages make it. No condition but those stated. -/
set_option maxRecDepth 100000
set_option linter.unusedVariables false
set_option linter.unusedSimpArgs false
namespace Go.Proofs.YtlogipcgejfnnaaDoor
open Go.Sh Go.Sh.Lx Go.RowKit
variable {w0 w w' : World}
def writL (k : Int) (x : List UInt8) : List UInt8 :=
  if k = 2 then (if x.contains 34 then 39 :: (x ++ [39]) else 34 :: (x ++ [34]))
  else if k = 3 then (if x.length ≠ 8 then 123 :: (x ++ [125]) else [123, 94] ++ x.take 4 ++ [45] ++ (x.drop 4).take 2 ++ [45] ++ x.drop 6 ++ [125])
  else x
def writS (t : Tok) : List UInt8 := writL t.kind t.text.data.toList
theorem writS_bs (k a : Int) (x : List UInt8) : writS ⟨k, a, bs x⟩ = writL k x := by unfold writS; rw [bs_list]
def joinS : Bool -> List Tok -> List UInt8
  | _, [] => []
  | g, t :: l => if t.kind = 5 then 10 :: joinS false l else (if g then [32] else []) ++ writS t ++ joinS true l
theorem writS_len (t : Tok) : (writS t).length <= t.text.size + 5 := by
  have hs : t.text.data.toList.length = t.text.size := size_list t.text
  unfold writS writL
  split
  · split <;> (simp only [List.length_cons, List.length_append, List.length_nil]; omega)
  · split
    · split
      · simp only [List.length_cons, List.length_append, List.length_nil]; omega
      · rename_i h8
        have h8 : t.text.data.toList.length = 8 := by simpa using h8
        simp only [List.length_append, List.length_cons, List.length_nil, List.length_take, List.length_drop]; omega
    · omega
def sizeT (l : List Tok) : Nat := (l.map fun t => t.text.size + 6).sum
theorem joinS_len : ∀ (g : Bool) (l : List Tok), (joinS g l).length <= sizeT l
  | _, [] => by simp [joinS, sizeT]
  | g, t :: l => by
    have h1 := joinS_len false l
    have h2 := joinS_len true l
    have h3 := writS_len t
    unfold joinS
    have hs : sizeT (t :: l) = t.text.size + 6 + sizeT l := by unfold sizeT; simp
    rw [hs]
    split
    · simp; omega
    · rw [List.length_append, List.length_append]
      cases g <;> simp <;> omega
theorem text_bs (s : ByteArray) : ∃ l, s = bs l /\ s.data.toList = l := ⟨s.data.toList, (list_bs s).symm, rfl⟩
theorem contains_index (l : List UInt8) (c : UInt8) : decide (0 <= Lib.indexByte l c) = l.contains c := by
  rw [indexByte_tw]
  by_cases h : (l.takeWhile fun b => !decide (b = c)).length < l.length
  · rw [if_pos h, decide_eq_true (by omega)]
    obtain ⟨x, hx⟩ := at_k h
    have h2 := tw_end (f := fun b => !decide (b = c)) hx
    have h3 : x = c := by simpa using h2
    have : c ∈ l := by rw [← h3]; exact List.mem_of_getElem? hx
    exact (by simpa using this)
  · rw [if_neg h, decide_eq_false (by omega)]
    symm
    have hle := tw_le (fun b => !decide (b = c)) l
    have hall : ∀ x ∈ l, x ≠ c := fun x hx e => by
      obtain ⟨j, hj⟩ := List.mem_iff_getElem?.1 hx
      have hjl := (List.getElem?_eq_some_iff.1 hj).1
      obtain ⟨y, hy, hf⟩ := tw_lt (f := fun b => !decide (b = c)) (l := l) (k := j) (by omega)
      rw [hj] at hy; cases hy
      rw [e] at hf; simp at hf
    simp only [List.contains_eq_mem, decide_eq_false_iff_not]
    intro hm; exact hall c hm rfl
theorem quote_c (l : List UInt8) (w : World) : Calls Tryd.prog 57 #[.string (bs l), .string (⟨#[34]⟩ : ByteArray)] w fun e w' => e = .returned (.bool (l.contains 34)) /\ w' = w := by
  refine (Any.strings_Contains_one Tryd.lays144 (bs l) 34 w).mono ?_
  rintro e w' ⟨rfl, rfl⟩
  rw [bs_list, contains_index]; exact ⟨rfl, rfl⟩
theorem cat_bs (a b : List UInt8) : ((bs a).size + (bs b).size : Nat) = a.length + b.length := by rw [bs_size, bs_size]
theorem date_text {x : List UInt8} (h8 : x.length = 8) : (((((((⟨#[123, 94]⟩ : ByteArray) ++ ((bs x).extract 0 ((4 : Int).toNat))) ++ (⟨#[45]⟩ : ByteArray)) ++ ((bs x).extract ((4 : Int).toNat) ((6 : Int).toNat))) ++ (⟨#[45]⟩ : ByteArray)) ++ ((bs x).extract ((6 : Int).toNat) (bs x).size)) ++ (⟨#[125]⟩ : ByteArray)) =
    bs ([123, 94] ++ x.take 4 ++ [45] ++ (x.drop 4).take 2 ++ [45] ++ x.drop 6 ++ [125]) := by
  have e1 : (⟨#[123, 94]⟩ : ByteArray) = bs [123, 94] := rfl
  have e2 : (⟨#[45]⟩ : ByteArray) = bs [45] := rfl
  have e3 : (⟨#[125]⟩ : ByteArray) = bs [125] := rfl
  have i4 : (4 : Int).toNat = 4 := rfl
  have i6 : (6 : Int).toNat = 6 := rfl
  rw [e1, e2, e3, i4, i6, extract_take, extract_take, extract_drop, List.drop_zero, List.drop_take, bs_append, bs_append, bs_append, bs_append, bs_append, bs_append]
theorem date_sizes {x : List UInt8} (h8 : x.length = 8) :
    (((⟨#[123, 94]⟩ : ByteArray).size + ((bs x).extract 0 ((4 : Int).toNat)).size : Nat) : Int) <= 9223372036854775807 /\
    ((((⟨#[123, 94]⟩ : ByteArray) ++ ((bs x).extract 0 ((4 : Int).toNat))).size + (⟨#[45]⟩ : ByteArray).size : Nat) : Int) <= 9223372036854775807 /\
    (((((⟨#[123, 94]⟩ : ByteArray) ++ ((bs x).extract 0 ((4 : Int).toNat))) ++ (⟨#[45]⟩ : ByteArray)).size + ((bs x).extract ((4 : Int).toNat) ((6 : Int).toNat)).size : Nat) : Int) <= 9223372036854775807 /\
    ((((((⟨#[123, 94]⟩ : ByteArray) ++ ((bs x).extract 0 ((4 : Int).toNat))) ++ (⟨#[45]⟩ : ByteArray)) ++ ((bs x).extract ((4 : Int).toNat) ((6 : Int).toNat))).size + (⟨#[45]⟩ : ByteArray).size : Nat) : Int) <= 9223372036854775807 /\
    (((((((⟨#[123, 94]⟩ : ByteArray) ++ ((bs x).extract 0 ((4 : Int).toNat))) ++ (⟨#[45]⟩ : ByteArray)) ++ ((bs x).extract ((4 : Int).toNat) ((6 : Int).toNat))) ++ (⟨#[45]⟩ : ByteArray)).size + ((bs x).extract ((6 : Int).toNat) (bs x).size).size : Nat) : Int) <= 9223372036854775807 /\
    ((((((((⟨#[123, 94]⟩ : ByteArray) ++ ((bs x).extract 0 ((4 : Int).toNat))) ++ (⟨#[45]⟩ : ByteArray)) ++ ((bs x).extract ((4 : Int).toNat) ((6 : Int).toNat))) ++ (⟨#[45]⟩ : ByteArray)) ++ ((bs x).extract ((6 : Int).toNat) (bs x).size)).size + (⟨#[125]⟩ : ByteArray).size : Nat) : Int) <= 9223372036854775807 := by
  have e1 : (⟨#[123, 94]⟩ : ByteArray) = bs [123, 94] := rfl
  have e2 : (⟨#[45]⟩ : ByteArray) = bs [45] := rfl
  have e3 : (⟨#[125]⟩ : ByteArray) = bs [125] := rfl
  have i4 : (4 : Int).toNat = 4 := rfl
  have i6 : (6 : Int).toNat = 6 := rfl
  rw [e1, e2, e3, i4, i6, extract_take, extract_take, extract_drop, List.drop_zero, List.drop_take, bs_append, bs_append, bs_append, bs_append, bs_append]
  simp only [cat_bs, List.length_append, List.length_take, List.length_drop, List.length_cons, List.length_nil, h8]
  omega
theorem quoted_cat (q : UInt8) (x : List UInt8) : ((⟨#[q]⟩ : ByteArray) ++ bs x) ++ (⟨#[q]⟩ : ByteArray) = bs (q :: (x ++ [q])) := by
  have e : (⟨#[q]⟩ : ByteArray) = bs [q] := rfl
  rw [e, bs_append, bs_append]; rfl
theorem brace_cat (x : List UInt8) : ((⟨#[123]⟩ : ByteArray) ++ bs x) ++ (⟨#[125]⟩ : ByteArray) = bs (123 :: (x ++ [125])) := by
  have e : (⟨#[123]⟩ : ByteArray) = bs [123] := rfl
  have e2 : (⟨#[125]⟩ : ByteArray) = bs [125] := rfl
  rw [e, e2, bs_append, bs_append]; rfl
theorem cat1_le (a c : UInt8) (x : List UInt8) (hx : x.length <= 140737488355328) : (((⟨#[a]⟩ : ByteArray).size + (bs x).size : Nat) : Int) <= 9223372036854775807 /\ ((((⟨#[a]⟩ : ByteArray) ++ bs x).size + (⟨#[c]⟩ : ByteArray).size : Nat) : Int) <= 9223372036854775807 := by
  have e : (⟨#[a]⟩ : ByteArray) = bs [a] := rfl
  have e2 : (⟨#[c]⟩ : ByteArray) = bs [c] := rfl
  rw [e, e2, bs_append, cat_bs, cat_bs]
  simp only [List.length_append, List.length_cons, List.length_nil]
  omega
theorem written_c (t : Tok) (ht : t.text.size <= 140737488355328) (w : World) : Calls Tryd.prog 37 #[.agg (tokV t).toArray] w fun e w' => e = .returned (.string (bs (writS t))) /\ Pu w w' := by
  obtain ⟨k, a, s⟩ := t
  obtain ⟨x, rfl, hx⟩ := text_bs s
  have hxl : x.length <= 140737488355328 := by have h := ht; rw [bs_size] at h; exact h
  rw [writS_bs]
  unfold writL
  refine calls_by (F37_calls _ _ _ w) fun R hR => alB fun w1 hp1 hb1 => ⟨_, cl0 hb1, ?_⟩
  refine Br.of (fun q => ⟨_, cl hb1 2, (quote_c x w1).mono ?_⟩) (fun q => ?_)
  · have q := btrue q
    rw [if_pos q] at hR
    rintro e w2 ⟨rfl, rfl⟩
    refine ⟨_, rfl, Br.of (fun q2 => ?_) (fun q2 => ?_)⟩
    · rw [if_pos q2] at hR
      obtain ⟨z1, z2⟩ := cat1_le 39 39 x hxl
      exact ⟨_, cl hb1 2, z1, z2, hR _ _ ⟨by rw [quoted_cat], hp1⟩⟩
    · rw [if_neg (by rw [q2]; simp)] at hR
      obtain ⟨z1, z2⟩ := cat1_le 34 34 x hxl
      exact ⟨_, cl hb1 2, z1, z2, hR _ _ ⟨by rw [quoted_cat], hp1⟩⟩
  · have q := bfalse q
    rw [if_neg q] at hR
    refine Br.of (fun q2 => ⟨_, cl hb1 2, Br.of (fun q3 => ?_) (fun q3 => ?_)⟩) (fun q2 => ⟨_, cl hb1 2, hR _ _ ⟨?_, hp1⟩⟩)
    · have q2 := btrue q2
      have q3 := bntrue q3
      rw [bs_size_i] at q3
      rw [if_pos q2, if_pos (by omega)] at hR
      obtain ⟨z1, z2⟩ := cat1_le 123 125 x hxl
      exact ⟨_, cl hb1 2, z1, z2, hR _ _ ⟨by rw [brace_cat], hp1⟩⟩
    · have q2 := btrue q2
      have q3 := bnfalse q3
      rw [bs_size_i] at q3
      have h8 : x.length = 8 := by omega
      rw [if_pos q2, if_neg (by omega)] at hR
      refine dwE_intro fun w2 hp2 _ => ?_
      have hb2 := hp2.blk hb1
      have hsz : (bs x).size = 8 := by rw [bs_size]; exact h8
      obtain ⟨z1, z2, z3, z4, z5, z6⟩ := date_sizes h8
      refine ⟨_, cl hb2 2, by omega, by rw [hsz]; decide, by omega, z1, z2, _, cl hb2 2, by omega, by rw [hsz]; decide, by omega, by decide, z3, z4, _, cl hb2 2, Nat.le_refl _, by omega, by rw [hsz]; decide, z5, z6, hR _ _ ⟨?_, hp1.trans hp2⟩⟩
      rw [date_text h8]
    · rw [if_neg (bfalse q2)]
end Go.Proofs.YtlogipcgejfnnaaDoor

/- Lex: the text of tokens, and the source that is made of them, as both packages make it. The signs: what the library's tables of letters and of bytes lay. -/
set_option maxRecDepth 100000
set_option linter.unusedVariables false
set_option linter.unusedSimpArgs false
namespace Go.Proofs.YtlogipcgejfnnaaDoor
open Go.Sh Go.Sh.Lx Go.RowKit
variable {w0 w w' : World}
abbrev Bld (b : Nat) (acc : List UInt8) (w : World) : Prop := Lib.IsBuilderF 63 5 b b (Lib.byteCells acc) w
theorem Bld.pu {b : Nat} {acc : List UInt8} (h : Bld b acc w) (hp : Pu w w') : Bld b acc w' := by
  have one : ∀ {p}, Lib.BuilderAtF 63 5 b b p (Lib.byteCells acc) w -> Lib.BuilderAtF 63 5 b b p (Lib.byteCells acc) w' := by
    rintro p ⟨hB, v, hb, ⟨hl, ho⟩, hne⟩
    refine ⟨hB, v, hp.blk hb, ⟨hl, ?_⟩, hne⟩
    rcases ho with ho | ⟨g, cap, cur, fz, h1, h2, h3, h4⟩
    · exact .inl ho
    · exact .inr ⟨g, cap, cur, fz, h1, h2, hp.blk h3, h4⟩
  exact h.elim (fun h => .inl (one h)) (fun h => .inr (one h))
theorem Bld.new {b : Nat} (hb : w.heap[b]? = some (.cells #[.pointer none, .slice none 0 0] 63)) : Bld b [] w :=
  .inl ⟨Nat.le_refl _, .slice none 0 0, hb, ⟨rfl, .inl ⟨rfl, rfl⟩⟩, by simp [Value.ownBlock]⟩
theorem writeString_c {b : Nat} {acc : List UInt8} (s : List UInt8) (h : Bld b acc w) (hl : acc.length + s.length <= 140737488355328) (hB : b <= w.heap.size) :
    Calls Tryd.prog 36 #[.pointer (some ⟨b, 0, none⟩), .string (bs s)] w fun e w' => e = .returned (.tuple #[.int .i64 (s.length : Nat), .nilIface]) /\ Bld b (acc ++ s) w' /\ Below b w w' /\ Lib.OthersKept 5 (some b) w w' := by
  refine (Any.Builder_WriteString_k Tryd.lays166 Tryd.Builder_Extra_158 b b (Lib.byteCells acc) (bs s) w h (by rw [Lib.byteCells_length, bs_size]; exact hl) hB).mono ?_
  rintro e w' ⟨rfl, h1, h2, h3⟩
  refine ⟨by rw [bs_size], ?_, h2, h3⟩
  have e1 : Lib.byteCells (acc ++ s) = Lib.byteCells acc ++ Lib.strCells (bs s) := by
    unfold Lib.byteCells Lib.strCells; rw [List.map_append, bs_list]
  unfold Bld
  rw [e1]
  exact .inr h1
theorem writeByte_c {b : Nat} {acc : List UInt8} (x : UInt8) (h : Bld b acc w) (hl : acc.length + 1 <= 140737488355328) (hB : b <= w.heap.size) :
    Calls Tryd.prog 35 #[.pointer (some ⟨b, 0, none⟩), .int .u8 ((x.toNat : Nat) : Int)] w fun e w' => e = .returned .nilIface /\ Bld b (acc ++ [x]) w' /\ Below b w w' /\ Lib.OthersKept 5 (some b) w w' := by
  refine (Any.Builder_WriteByte_k Tryd.lays167 Tryd.Builder_Extra_158 b b (Lib.byteCells acc) ((x.toNat : Nat) : Int) w h (by rw [Lib.byteCells_length]; exact hl) hB).mono ?_
  rintro e w' ⟨rfl, h1, h2, h3⟩
  refine ⟨rfl, ?_, h2, h3⟩
  have e1 : Lib.byteCells (acc ++ [x]) = Lib.byteCells acc ++ [.int .u8 ((x.toNat : Nat) : Int)] := by
    unfold Lib.byteCells; rw [List.map_append]; rfl
  unfold Bld
  rw [e1]
  exact .inr h1
theorem builderString_c {b : Nat} {acc : List UInt8} (h : Bld b acc w) (hB : b <= w.heap.size) : Calls Tryd.prog 38 #[.pointer (some ⟨b, 0, none⟩)] w fun e w' => e = .returned (.string (bs acc)) /\ Below b w w' := by
  refine (Any.Builder_String_any_k Tryd.lays169 Tryd.Builder_Extra_158 b b acc w h hB).mono ?_
  rintro e w' ⟨rfl, _, h2, _⟩
  exact ⟨rfl, h2⟩
theorem Pu.low {b : Nat} (h : Pu w0 w) (hb : w0.heap.size <= b) (k : Below b w w') : Pu w0 w' := Below.trans h (k.mono hb)
def texts (l : List Tok) : Prop := ∀ t ∈ l, t.text.size <= 140737488355328
theorem joinS_drop {g : Bool} {l : List Tok} {k : Nat} {t : Tok} (h : l[k]? = some t) : joinS g (l.drop k) = if t.kind = 5 then 10 :: joinS false (l.drop (k + 1)) else (if g then [32] else []) ++ writS t ++ joinS true (l.drop (k + 1)) := by
  rw [drop_at h]; rfl
theorem joined_c {s : SV} {l : List Tok} (hs : RdSl w0 s l) (ht : texts l) (hz : sizeT l <= 140737488355328) : Calls Tryd.prog 19 #[.slice s.a s.len s.cap] w0 fun e w' => e = .returned (.string (bs (joinS false l))) /\ Pu w0 w' := by
  have hsl := hs.len
  have hlim := hs.lim
  have hjl := joinS_len false l
  refine calls_by (F19_calls _ w0) fun R hR => alB fun w1 hp1 hb1 => ?_
  obtain ⟨b, hb⟩ : ∃ b, b = w0.heap.size := ⟨_, rfl⟩
  rw [← hb] at hb1 ⊢
  refine loopUp l.length (fun k t w' => ∃ acc, t.2 = (k : Int) /\ Pu w0 w' /\ Bld b acc w' /\ b < w'.heap.size /\ acc ++ joinS t.1 (l.drop k) = joinS false l) ⟨[], rfl, hp1, Bld.new hb1, blk_lt hb1, rfl⟩ ?_
  rintro k J ⟨g, n⟩ w2 hk ⟨acc, rfl, hp2, hB, hlt, hacc⟩ hJ
  dsimp only at hacc ⊢
  refine Br.of (fun q => ?_) (fun q => ?_)
  · have q := dtrue q
    have hk2 : k < l.length := by omega
    obtain ⟨t, htk⟩ := at_k hk2
    have htt := ht t (List.mem_of_getElem? htk)
    obtain ⟨a, ha, h1, h2, _, c0, c1, c2⟩ := RdSl.tok (hs.pu hp2) htk
    rw [joinS_drop htk] at hacc
    refine ⟨a, ha, h1, h2, _, c0, _, c1, _, c2, alB fun w3 hp3 hb3 => ?_⟩
    refine stA_fill hb3 s49.symm rfl rfl fun w4 hb4 hf4 _ => ?_
    have hb4 : TokB w4 w2.heap.size t := hb4
    have hP24 : Pu w2 w4 := Pu.andNew hp3 hf4 (fun i hi => by rw [show i = _ from hi]; exact Nat.le_refl _)
    have hB4 := hB.pu hP24
    have hP4 := hp2.trans hP24
    have hz4 := hP24.size
    rw [wrap_in (by omega) (by omega)]
    refine ⟨_, cl0 hb4, Br.of (fun q5 => ?_) (fun q5 => ?_)⟩
    · have q5 := btrue q5
      rw [if_pos q5] at hacc
      have hlen := congrArg List.length hacc
      rw [List.length_append, List.length_cons] at hlen
      refine (writeByte_c 10 hB4 (by omega) (by omega)).mono ?_
      rintro e w5 ⟨rfl, hB5, hl5, _⟩
      exact ⟨_, rfl, hJ _ _ hk2 ⟨acc ++ [10], by dsimp only; omega, Pu.low hP4 (by omega) hl5, hB5, by have := hl5.size; omega, by rw [← hacc, List.append_assoc]; rfl⟩⟩
    · have q5 := bfalse q5
      rw [if_neg q5] at hacc
      have hlen := congrArg List.length hacc
      rw [List.length_append, List.length_append, List.length_append] at hlen
      refine Br.of (fun qg => ?_) (fun qg => ?_)
      · subst qg
        have hlen : acc.length + (1 + (writS t).length + (joinS true (l.drop (k + 1))).length) = (joinS false l).length := hlen
        refine (writeByte_c 32 hB4 (by omega) (by omega)).mono ?_
        rintro e w5 ⟨rfl, hB5, hl5, ho5⟩
        have hP5 := Pu.low hP4 (by omega) hl5
        have hz5 := hl5.size
        have hb5 : TokB w5 w2.heap.size t := ho5 _ _ hb4 (by simp; omega) (fun c fz e => by cases e)
        refine ⟨_, rfl, _, cl hb5 0, _, cl hb5 1, _, cl hb5 2, (written_c t htt w5).mono ?_⟩
        rintro e w6 ⟨rfl, hp6⟩
        have hz6 := hp6.size
        refine ⟨_, rfl, (writeString_c (writS t) (hB5.pu hp6) (by simp; omega) (by omega)).mono ?_⟩
        rintro e w7 ⟨rfl, hB7, hl7, _⟩
        refine ⟨_, _, rfl, hJ _ _ hk2 ⟨_, by dsimp only; omega, Pu.low (hP5.trans hp6) (by omega) hl7, hB7, by have := hl7.size; omega, ?_⟩⟩
        rw [← hacc]; simp
      · subst qg
        have hlen : acc.length + (0 + (writS t).length + (joinS true (l.drop (k + 1))).length) = (joinS false l).length := hlen
        refine ⟨_, cl hb4 0, _, cl hb4 1, _, cl hb4 2, (written_c t htt w4).mono ?_⟩
        rintro e w6 ⟨rfl, hp6⟩
        have hz6 := hp6.size
        refine ⟨_, rfl, (writeString_c (writS t) (hB4.pu hp6) (by omega) (by omega)).mono ?_⟩
        rintro e w7 ⟨rfl, hB7, hl7, _⟩
        refine ⟨_, _, rfl, hJ _ _ hk2 ⟨_, by dsimp only; omega, Pu.low (hP4.trans hp6) (by omega) hl7, hB7, by have := hl7.size; omega, ?_⟩⟩
        rw [← hacc]; simp
  · have q := dfalse q
    rw [List.drop_eq_nil_of_le (by omega)] at hacc
    have hacc : acc = joinS false l := by rw [← hacc]; simp [joinS]
    refine (builderString_c hB (by omega)).mono ?_
    rintro e w3 ⟨rfl, hl3⟩
    exact ⟨_, rfl, hR _ _ ⟨by rw [hacc], Pu.low hp2 (by omega) hl3⟩⟩
def joinF (l : List Tok) : List UInt8 × Int := if (lexF (joinS false l)).2.2 ≠ 0 then ([], (lexF (joinS false l)).2.2) else if sameS (lexF (joinS false l)).1 l = false then ([], 1) else (joinS false l, 0)
theorem join_c (hL : Laid w) {s : SV} {l : List Tok} (hs : RdSl w s l) (ht : texts l) (hz : sizeT l <= 140737488355328) : Calls Tryd.prog 8 #[.slice s.a s.len s.cap] w fun e w' => e = .returned (.tuple #[.string (bs (joinF l).1), .int .i64 (joinF l).2]) /\ Pu w w' := by
  have hjl := joinS_len false l
  refine calls_by (F8_calls _ w) fun R hR => (joined_c hs ht hz).mono ?_
  rintro e w1 ⟨rfl, hp1⟩
  refine ⟨_, rfl, (lex_c (hL.pu hp1) (joinS false l) (by omega)).mono ?_⟩
  rintro e w2 ⟨hp2, t, rfl, hrd⟩
  have hp := hp1.trans hp2
  refine ⟨t, _, _, rfl, Br.of (fun q => hR _ _ ⟨?_, hp⟩) (fun q => (same_c hrd (hs.pu hp)).mono ?_)⟩
  · unfold joinF; rw [if_pos (bntrue q)]
  · rintro e w3 ⟨rfl, hp3⟩
    have q := bnfalse q
    refine ⟨_, rfl, Br.of (fun q2 => hR _ _ ⟨?_, hp.trans hp3⟩) (fun q2 => hR _ _ ⟨?_, hp.trans hp3⟩)⟩
    · unfold joinF; rw [if_neg (by simp [q]), if_pos (by simpa using q2)]
    · unfold joinF; have q2 : sameS (lexF (joinS false l)).1 l = true := by simpa using q2
      rw [if_neg (by simp [q]), if_neg (by simp [q2])]
end Go.Proofs.YtlogipcgejfnnaaDoor

/- Lex: how long the texts of tokens are, and that the last token ends a line; a part of a list of tokens. No condition. -/
set_option maxRecDepth 100000
set_option linter.unusedVariables false
set_option linter.unusedSimpArgs false
namespace Go.Proofs.YtlogipcgejfnnaaDoor
open Go.Sh Go.Sh.Lx Go.RowKit
variable {w0 w w' : World}
def TokTx (n : Nat) : Stp -> Prop
  | .tok k t m => t.length <= n + 8
  | _ => True
theorem datesD_len (l : List UInt8) : (datesD l).length <= 8 := by
  unfold datesD
  simp only [List.length_append, List.length_take, List.length_drop]
  omega
theorem tokS_tx {x : UInt8} {r : List UInt8} : TokTx r.length (tokS x r) := by
  unfold tokS
  split
  · have := tw_le (fun c => letB c || digB c) (x :: r)
    rw [List.length_cons] at this
    dsimp only
    split
    · trivial
    · show (List.map capU _).length <= _
      rw [List.length_map]; omega
  · split
    · have := tw_le digB (x :: r)
      rw [List.length_cons] at this
      dsimp only
      split
      · trivial
      · show (List.takeWhile digB (x :: r)).length <= _; omega
    · split
      · unfold quoteS
        have h1 := tw_le (fun b => !nlB b && !decide (b = x)) r
        dsimp only
        split
        · split
          · trivial
          · show (List.takeWhile (fun b => !nlB b && !decide (b = x)) r).length <= _; omega
        · trivial
      · split
        · rename_i d n hd
          have hn : d.length <= 8 := by
            unfold dateL at hd
            split at hd
            · have : d = [] := by simp at hd; exact hd.1
              rw [this]; simp
            · split at hd
              · cases hd
              · split at hd
                · have : d = datesD (x :: r) := by simp at hd; exact hd.1.symm
                  rw [this]; exact datesD_len _
                · cases hd
          show d.length <= _; omega
        · split
          · rename_i w hw
            unfold signS at hw
            have h9 := List.find?_some hw
            have h8 := congrArg List.length (of_decide_eq_true h9)
            rw [List.length_map, List.length_take, List.length_cons] at h8
            show w.length <= _; omega
          · trivial
theorem stepS_tx {x : UInt8} {r : List UInt8} {line : Bool} {k : Int} {t : List UInt8} {m : Nat} (h : stepS x r line = .tok k t m) : t.length <= r.length + 8 := by
  unfold stepS at h
  split at h
  · cases h
  · split at h
    · cases h
    · split at h
      · split at h <;> cases h
      · split at h
        · split at h <;> cases h
        · have := tokS_tx (x := x) (r := r)
          rw [h] at this
          exact this
def lastOk (l : List Tok) : Prop := ∀ t, l.getLast? = some t -> t.kind = 5
theorem lastOk_cons {t : Tok} {l : List Tok} (h : lastOk l) (hn : l = [] -> t.kind = 5) : lastOk (t :: l) := fun u hu => by
  cases l with
  | nil => simp at hu; subst hu; exact hn rfl
  | cons a r => rw [List.getLast?_cons_cons] at hu; exact h u hu
theorem lexS_texts : ∀ (n : Nat) (r : List UInt8) (p : Nat) (line : Bool), r.length <= n -> (∀ t ∈ (lexS r p line).1, t.text.size <= r.length + 8) /\ ((lexS r p line).2 = none -> lastOk (lexS r p line).1 /\ ((lexS r p line).1 = [] -> line = false)) := by
  have e5 : ∀ p, (endT p).kind = 5 := fun _ => rfl
  have z5 : ∀ p, (endT p).text.size = 0 := fun _ => rfl
  have ends : ∀ (p : Nat) (line : Bool), (∀ t ∈ (if line then [endT p] else []), t.text.size <= 0) /\ (lastOk (if line then [endT p] else []) /\ ((if line then [endT p] else []) = [] -> line = false)) := by
    intro p line
    cases line with
    | false => exact ⟨fun t ht => by simp at ht, fun t ht => by simp at ht, fun _ => rfl⟩
    | true => exact ⟨fun t ht => by simp at ht; subst ht; rw [z5]; exact Nat.le_refl _, fun t ht => by simp at ht; subst ht; rfl, fun h => by simp at h⟩
  intro n
  induction n with
  | zero =>
    intro r p line h
    obtain rfl : r = [] := List.eq_nil_of_length_eq_zero (by omega)
    rw [lexS_nil]
    exact ⟨fun t ht => by have := (ends p line).1 t ht; omega, fun _ => (ends p line).2⟩
  | succ n ih =>
    intro r p line h
    cases r with
    | nil =>
      rw [lexS_nil]
      exact ⟨fun t ht => by have := (ends p line).1 t ht; omega, fun _ => (ends p line).2⟩
    | cons x r =>
      have hr : r.length <= n := by simpa using h
      have hd : ∀ m, (r.drop m).length <= r.length := fun m => by rw [List.length_drop]; omega
      cases hs : stepS x r line with
      | go m =>
        rw [lexS_go hs]
        obtain ⟨h1, h2⟩ := ih (r.drop m) (p + 1 + m) line (Nat.le_trans (hd m) hr)
        exact ⟨fun t ht => by have := h1 t ht; have := hd m; rw [List.length_cons]; omega, h2⟩
      | eol =>
        rw [lexS_eol hs]
        obtain ⟨h1, h2⟩ := ih r (p + 1) false hr
        refine ⟨fun t ht => ?_, fun hn => ?_⟩
        · rcases List.mem_append.1 ht with h | h
          · have := (ends p line).1 t h; omega
          · have := h1 t h; rw [List.length_cons]; omega
        · obtain ⟨h3, h4⟩ := h2 hn
          cases line with
          | false => exact ⟨by simpa using h3, fun _ => rfl⟩
          | true => exact ⟨by
              show lastOk (endT p :: (lexS r (p + 1) false).1)
              exact lastOk_cons h3 fun _ => rfl, fun h => by simp at h⟩
      | tok k t m =>
        rw [lexS_tok hs]
        obtain ⟨h1, h2⟩ := ih (r.drop m) (p + 1 + m) true (Nat.le_trans (hd m) hr)
        have htx := stepS_tx hs
        refine ⟨fun u hu => ?_, fun hn => ?_⟩
        · rcases List.mem_cons.1 hu with rfl | h
          · show (bs t).size <= _; rw [bs_size, List.length_cons]; omega
          · have := h1 u h; have := hd m; rw [List.length_cons]; omega
        · obtain ⟨h3, h4⟩ := h2 hn
          exact ⟨lastOk_cons h3 fun h => (by cases h4 h), fun h => (by cases h)⟩
      | bad i =>
        rw [lexS_bad hs]
        exact ⟨fun t ht => (by cases ht), fun h => (by cases h)⟩
theorem lexF_ok {d : List UInt8} (h : (lexF d).2.2 = 0) : (lexF d).1 = (lexS d 0 false).1 /\ (lexS d 0 false).2 = none /\ (lexF d).1.length <= 1200 /\ d.length <= 4000 := by
  unfold lexF at h ⊢
  split
  · rename_i h1; rw [if_pos h1] at h; cases h
  · rename_i h1
    rw [if_neg h1] at h
    cases hs : (lexS d 0 false).2 with
    | some i => rw [hs] at h; cases h
    | none =>
      rw [hs] at h
      dsimp only at h ⊢
      split
      · rename_i h2; rw [if_pos h2] at h; cases h
      · exact ⟨rfl, rfl, (by show (lexS d 0 false).1.length <= 1200; omega), (by omega)⟩
theorem lexF_texts {d : List UInt8} (h : (lexF d).2.2 = 0) : (∀ t ∈ (lexF d).1, t.text.size <= 5000) /\ lastOk (lexF d).1 /\ (lexF d).1.length <= 1200 := by
  obtain ⟨h1, h2, h3, h4⟩ := lexF_ok h
  obtain ⟨g1, g2⟩ := lexS_texts d.length d 0 false (Nat.le_refl _)
  rw [h1] at h3 ⊢
  exact ⟨fun t ht => by have := g1 t ht; omega, (g2 h2).1, h3⟩
theorem sizeT_le : ∀ {l : List Tok} {m : Nat}, (∀ t ∈ l, t.text.size <= m) -> sizeT l <= l.length * (m + 6)
  | [], m, _ => by simp [sizeT]
  | t :: r, m, h => by
    have ih := sizeT_le (l := r) (m := m) fun u hu => h u (List.mem_cons_of_mem _ hu)
    have h0 := h t (List.mem_cons_self ..)
    unfold sizeT at ih ⊢
    rw [List.map_cons, List.sum_cons, List.length_cons, Nat.succ_mul]
    omega
end Go.Proofs.YtlogipcgejfnnaaDoor

/- Lex (second seat): a source that is made of the tokens of another one has the same tokens, in plain words. No condition. -/
set_option maxRecDepth 100000
set_option linter.unusedVariables false
set_option linter.unusedSimpArgs false
namespace Go.Proofs.YtlogipcgejfnnaaDoor
open Go.Sh Go.Sh.Lx Go.RowKit
def sepB (b : UInt8) : Prop := b = 32 ∨ b = 10
def ReTok (line : Bool) (k : Int) (t : List UInt8) : Prop := ∃ b x, writL k t = b :: x /\ ∀ sep rest, sepB sep -> stepS b (x ++ sep :: rest) line = .tok k t x.length
theorem all256 {P : UInt8 -> Prop} (h : ∀ n : Nat, n < 256 -> P (UInt8.ofNat n)) (b : UInt8) : P b := by
  have := h b.toNat b.toNat_lt
  rwa [UInt8.ofNat_toNat] at this
def wordB (c : UInt8) : Bool := letB c || digB c
theorem sep_word {b : UInt8} (h : sepB b) : wordB b = false /\ digB b = false /\ capU b = b /\ b ≠ 125 /\ b ≠ 94 /\ b ≠ 38 := by
  rcases h with rfl | rfl <;> decide
theorem plainB (b : UInt8) : (letB b = true -> nlB b = false /\ blkB b = false /\ b.toNat ≠ 38 /\ b.toNat ≠ 42 /\ b.toNat ≠ 59 /\ letB (capU b) = true) /\ (wordB b = true -> wordB (capU b) = true) /\ capU (capU b) = capU b := by
  refine all256 (P := fun b => (letB b = true -> nlB b = false /\ blkB b = false /\ b.toNat ≠ 38 /\ b.toNat ≠ 42 /\ b.toNat ≠ 59 /\ letB (capU b) = true) /\ (wordB b = true -> wordB (capU b) = true) /\ capU (capU b) = capU b) ?_ b
  decide +kernel
theorem digit_plain (b : UInt8) : digB b = true -> nlB b = false /\ blkB b = false /\ b.toNat ≠ 38 /\ b.toNat ≠ 42 /\ b.toNat ≠ 59 /\ letB b = false := by
  refine all256 (P := fun b => digB b = true -> nlB b = false /\ blkB b = false /\ b.toNat ≠ 38 /\ b.toNat ≠ 42 /\ b.toNat ≠ 59 /\ letB b = false) ?_ b
  decide +kernel
theorem ampB_no {b : UInt8} {r : List UInt8} (h : b.toNat ≠ 38) : ampB (b :: r) = false := by
  cases r with
  | nil => rfl
  | cons c r => show (decide (b.toNat = 38) && decide (c.toNat = 38)) = false; rw [decide_eq_false h, Bool.false_and]
theorem step_plain {b : UInt8} {r : List UInt8} {line : Bool} (h1 : nlB b = false) (h2 : blkB b = false) (h3 : ampB (b :: r) = false) (h4 : b.toNat = 42 -> line = true) (h5 : b.toNat ≠ 59) : stepS b r line = tokS b r := by
  unfold stepS
  rw [if_neg (by rw [h1]; decide), if_neg (by rw [h2]; decide), if_neg, if_neg (by rw [decide_eq_false h5]; simp)]
  rw [h3, Bool.false_or]
  by_cases h : b.toNat = 42
  · rw [h4 h]; simp
  · rw [decide_eq_false h]; simp
theorem tw_all {p : UInt8 -> Bool} : ∀ {t : List UInt8} {s : UInt8} {r : List UInt8}, t.all p = true -> p s = false -> (t ++ s :: r).takeWhile p = t
  | [], s, r, _, hs => by rw [List.nil_append, List.takeWhile_cons, if_neg (by rw [hs]; decide)]
  | a :: t, s, r, ht, hs => by
    rw [List.all_cons, Bool.and_eq_true] at ht
    rw [List.cons_append, List.takeWhile_cons, if_pos ht.1, tw_all ht.2 hs]
theorem all_tw {p : UInt8 -> Bool} : ∀ l : List UInt8, (l.takeWhile p).all p = true
  | [] => rfl
  | a :: r => by
    rw [List.takeWhile_cons]
    split
    · rename_i h; rw [List.all_cons, h, all_tw r]; rfl
    · rfl
theorem writL_at (k : Int) (x : List UInt8) (h2 : k ≠ 2) (h3 : k ≠ 3) : writL k x = x := by unfold writL; rw [if_neg h2, if_neg h3]
theorem re_word {b : UInt8} {r : List UInt8} {line : Bool} (hb : letB b = true) (hl : ((b :: r).takeWhile wordB).length <= 24) : ReTok line 0 (((b :: r).takeWhile wordB).map capU) /\ (writL 0 (((b :: r).takeWhile wordB).map capU)).length = ((b :: r).takeWhile wordB).length := by
  have hwb : wordB b = true := by unfold wordB; rw [hb]; rfl
  have hcons : (b :: r).takeWhile wordB = b :: r.takeWhile wordB := by rw [List.takeWhile_cons, if_pos hwb]
  rw [writL_at 0 _ (by decide) (by decide)]
  refine ⟨⟨capU b, (r.takeWhile wordB).map capU, by rw [writL_at 0 _ (by decide) (by decide), hcons]; rfl, fun sep rest hs => ?_⟩, by simp⟩
  have hall := all_tw (p := wordB) (b :: r)
  have hall2 : (((b :: r).takeWhile wordB).map capU).all wordB = true := by
    rw [List.all_map]
    exact List.all_eq_true.2 fun c hc => (plainB c).2.1 (List.all_eq_true.1 hall c hc)
  have hcap : (((b :: r).takeWhile wordB).map capU).map capU = ((b :: r).takeWhile wordB).map capU := by
    rw [List.map_map]
    exact List.map_congr_left fun c _ => (plainB c).2.2
  have hlc : letB (capU b) = true := ((plainB b).1 hb).2.2.2.2.2
  obtain ⟨p1, p2, p3, p4, p5, _⟩ := (plainB (capU b)).1 hlc
  rw [step_plain p1 p2 (ampB_no p3) (fun h => absurd h p4) p5]
  have htw : (capU b :: ((r.takeWhile wordB).map capU ++ sep :: rest)).takeWhile (fun c => letB c || digB c) = ((b :: r).takeWhile wordB).map capU := by
    have := tw_all (p := wordB) (s := sep) (r := rest) hall2 (sep_word hs).1
    rw [hcons, List.map_cons, List.cons_append] at this
    rw [hcons, List.map_cons]; exact this
  unfold tokS
  rw [if_pos hlc, htw]
  dsimp only
  rw [if_neg (by rw [List.length_map]; omega), hcap, List.length_map, hcons]
  simp
theorem re_num {b : UInt8} {r : List UInt8} {line : Bool} (hb : digB b = true) (hl : ((b :: r).takeWhile digB).length <= 15) : ReTok line 1 ((b :: r).takeWhile digB) := by
  have hcons : (b :: r).takeWhile digB = b :: r.takeWhile digB := by rw [List.takeWhile_cons, if_pos hb]
  refine ⟨b, r.takeWhile digB, by rw [writL_at 1 _ (by decide) (by decide), hcons], fun sep rest hs => ?_⟩
  have hall := all_tw (p := digB) (b :: r)
  obtain ⟨p1, p2, p3, p4, p5, p6⟩ := digit_plain b hb
  rw [step_plain p1 p2 (ampB_no p3) (fun h => absurd h p4) p5]
  have htw : (b :: (r.takeWhile digB ++ sep :: rest)).takeWhile digB = (b :: r).takeWhile digB := by
    have := tw_all (p := digB) (s := sep) (r := rest) hall (sep_word hs).2.1
    rw [hcons, List.cons_append] at this
    rw [hcons]; exact this
  unfold tokS
  rw [if_neg (by rw [p6]; decide), if_pos hb, htw]
  dsimp only
  rw [if_neg (by omega), hcons]
  simp
theorem re_quote {q : UInt8} {r : List UInt8} {line : Bool} (hq : q.toNat = 34 ∨ q.toNat = 39) (hb : badAt (r.takeWhile fun b => !nlB b && !decide (b = q)) = none) : ReTok line 2 (r.takeWhile fun b => !nlB b && !decide (b = q)) /\ (writL 2 (r.takeWhile fun b => !nlB b && !decide (b = q))).length = (r.takeWhile fun b => !nlB b && !decide (b = q)).length + 2 := by
  have hall := all_tw (p := fun b => !nlB b && !decide (b = q)) r
  generalize hT : (r.takeWhile fun b => !nlB b && !decide (b = q)) = T at hb hall ⊢
  -- the sign that is written
  have key : ∀ q2 : UInt8, (q2.toNat = 34 ∨ q2.toNat = 39) -> T.contains q2 = false -> writL 2 T = q2 :: (T ++ [q2]) -> ReTok line 2 T /\ (writL 2 T).length = T.length + 2 := fun q2 h2 hn hw => by
    refine ⟨⟨q2, T ++ [q2], hw, fun sep rest hs => ?_⟩, by rw [hw]; simp⟩
    have hall2 : T.all (fun b => !nlB b && !decide (b = q2)) = true := List.all_eq_true.2 fun c hc => by
      have h3 := List.all_eq_true.1 hall c hc
      rw [Bool.and_eq_true] at h3
      rw [Bool.and_eq_true]
      refine ⟨h3.1, ?_⟩
      have : c ≠ q2 := fun h => by
        subst h
        rw [List.contains_iff_mem.2 hc] at hn; cases hn
      simp [this]
    have hq2 : (!nlB q2 && !decide (q2 = q2)) = false := by simp
    have htw : (T ++ [q2] ++ sep :: rest).takeWhile (fun b => !nlB b && !decide (b = q2)) = T := by
      rw [List.append_assoc]; exact tw_all hall2 hq2
    have hpl : letB q2 = false /\ digB q2 = false /\ nlB q2 = false /\ blkB q2 = false /\ q2.toNat ≠ 38 /\ q2.toNat ≠ 42 /\ q2.toNat ≠ 59 := by
      have e : q2 = 34 ∨ q2 = 39 := by
        rcases h2 with h | h
        · exact .inl (UInt8.toNat_inj.1 h)
        · exact .inr (UInt8.toNat_inj.1 h)
      rcases e with rfl | rfl <;> decide
    obtain ⟨l1, l2, l3, l4, l5, l6, l7⟩ := hpl
    rw [step_plain l3 l4 (ampB_no l5) (fun h => absurd h l6) l7]
    unfold tokS
    rw [if_neg (by rw [l1]; decide), if_neg (by rw [l2]; decide), if_pos h2]
    unfold quoteS
    rw [htw]
    dsimp only
    rw [if_pos (by rw [List.append_assoc, List.getElem?_append_right (by omega)]; simp), hb]
    simp
  by_cases hc : T.contains 34 = true
  · refine key 39 (.inr rfl) ?_ (by unfold writL; rw [if_pos rfl, if_pos hc])
    have hq39 : q = 39 := by
      rcases hq with h | h
      · have e : q = 34 := UInt8.toNat_inj.1 h
        have hm := List.contains_iff_mem.1 hc
        have h3 := List.all_eq_true.1 hall _ hm
        rw [e] at h3; simp at h3
      · exact UInt8.toNat_inj.1 h
    cases h39 : T.contains 39 with
    | false => rfl
    | true =>
      have hm := List.contains_iff_mem.1 h39
      have h3 := List.all_eq_true.1 hall _ hm
      rw [hq39] at h3; simp at h3
  · exact key 34 (.inl rfl) (by simpa using hc) (by unfold writL; rw [if_pos rfl, if_neg hc])
theorem re_date {l d : List UInt8} {n : Nat} {line : Bool} (h : dateL l = some (d, n)) : ReTok line 3 d /\ (writL 3 d).length = n := by
  have fin : ∀ (x : List UInt8) (d : List UInt8) (m : Nat), writL 3 d = 123 :: x -> x.length + 1 = m -> (∀ sep rest, sepB sep -> dateL (123 :: (x ++ sep :: rest)) = some (d, m)) -> ReTok line 3 d /\ (writL 3 d).length = m := fun x d m hw hm hd => by
    refine ⟨⟨123, x, hw, fun sep rest hs => ?_⟩, by rw [hw]; simpa using hm⟩
    rw [step_plain (by decide) (by decide) (ampB_no (by decide)) (fun h => absurd h (by decide)) (by decide)]
    unfold tokS
    rw [if_neg (by decide), if_neg (by decide), if_neg (by decide), hd sep rest hs]
    dsimp only
    congr 1; omega
  unfold dateL at h
  split at h
  · obtain ⟨rfl, rfl⟩ : [] = d /\ 2 = n := by simpa using h
    exact fin [125] [] 2 (by decide) rfl fun sep rest hs => by unfold dateL; rw [if_pos (by simp)]
  · split at h
    · cases h
    · rename_i h1 h2
      split at h
      case isFalse => cases h
      rename_i h3
      obtain ⟨rfl, rfl⟩ : datesD l = d /\ 13 = n := by simpa using h
      have hl : 13 <= l.length := by omega
      have h8 : (datesD l).length = 8 := by unfold datesD; simp only [List.length_append, List.length_take, List.length_drop]; omega
      generalize datesD l = D at h3 h8 ⊢
      have hw : writL 3 D = 123 :: ([94] ++ D.take 4 ++ [45] ++ (D.drop 4).take 2 ++ [45] ++ D.drop 6 ++ [125]) := by unfold writL; rw [if_neg (by decide), if_pos rfl, if_neg (by omega)]; rfl
      refine fin _ D 13 hw (by simp; omega) fun sep rest hs => ?_
      match D, h8 with
      | [a0, a1, a2, a3, a4, a5, a6, a7], _ =>
        unfold dateL
        rw [if_neg (by simp), if_neg (by simp)]
        have hdd : datesD (123 :: ([94] ++ [a0, a1, a2, a3, a4, a5, a6, a7].take 4 ++ [45] ++ ([a0, a1, a2, a3, a4, a5, a6, a7].drop 4).take 2 ++ [45] ++ [a0, a1, a2, a3, a4, a5, a6, a7].drop 6 ++ [125] ++ sep :: rest)) = [a0, a1, a2, a3, a4, a5, a6, a7] := rfl
        rw [hdd, if_pos h3]
def headOk (w : List UInt8) : Bool := match w with
  | [] => false
  | b :: r => !nlB b && !blkB b && !decide (b.toNat = 59) && !letB b && !digB b && !decide (b.toNat = 34) && !decide (b.toNat = 39) && (!decide (b.toNat = 42) || r.isEmpty) && (!decide (b.toNat = 38) || r.isEmpty) && (!decide (b.toNat = 123) || r.isEmpty) && (b :: r).all fun c => !decide (c = 32) && !decide (c = 10)
theorem heads_ok : ∀ w ∈ signsS, headOk w = true := by decide +kernel
theorem find_congr {α : Type} {p q : α -> Bool} : ∀ {l : List α}, (∀ x ∈ l, p x = q x) -> l.find? p = l.find? q
  | [], _ => rfl
  | a :: r, h => by
    rw [List.find?_cons, List.find?_cons, h a (List.mem_cons_self ..), find_congr fun x hx => h x (List.mem_cons_of_mem _ hx)]
theorem sign_self : ∀ w ∈ signsS, signS (w ++ [32]) = some w /\ signS (w ++ [10]) = some w := by decide +kernel
theorem sign_again {w : List UInt8} (hw : w ∈ signsS) {sep : UInt8} (hs : sepB sep) (rest : List UInt8) : signS (w ++ sep :: rest) = some w := by
  have h1 : signS (w ++ [sep]) = some w := by rcases hs with rfl | rfl; exact (sign_self w hw).1; exact (sign_self w hw).2
  rw [← h1]
  unfold signS
  refine find_congr fun v hv => dec_eq ?_
  have hno : sep ∉ v := fun hm => by
    have hh := heads_ok v hv
    unfold headOk at hh
    cases v with
    | nil => cases hh
    | cons b r =>
      simp only [Bool.and_eq_true] at hh
      have := List.all_eq_true.1 hh.2 sep hm
      rcases hs with rfl | rfl <;> simp at this
  have hcs := (sep_word hs).2.2.1
  by_cases hl : v.length <= w.length
  · rw [List.take_append_of_le_length hl, List.take_append_of_le_length hl]
  · have no : ∀ x : List UInt8, (((w ++ sep :: x).take v.length).map capU = v) -> False := fun x h => by
      apply hno
      rw [← h]
      refine List.mem_map.2 ⟨sep, ?_, hcs⟩
      rw [List.take_append]
      refine List.mem_append_right _ ?_
      rw [show v.length - w.length = (v.length - w.length - 1) + 1 by omega, List.take_succ_cons]
      exact List.mem_cons_self ..
    exact ⟨fun h => (no _ h).elim, fun h => (no _ h).elim⟩
theorem re_sign {w : List UInt8} {line : Bool} (hw : w ∈ signsS) (hstar : w = [42] -> line = true) : ReTok line 4 w := by
  have hh := heads_ok w hw
  cases w with
  | nil => cases hh
  | cons b x =>
    refine ⟨b, x, by rw [writL_at 4 _ (by decide) (by decide)], fun sep rest hs => ?_⟩
    unfold headOk at hh
    simp only [Bool.and_eq_true, Bool.not_eq_true', decide_eq_false_iff_not, Bool.or_eq_true, List.isEmpty_iff] at hh
    obtain ⟨⟨⟨⟨⟨⟨⟨⟨⟨⟨g1, g2⟩, g3⟩, g4⟩, g5⟩, g6⟩, g7⟩, g8⟩, g9⟩, g10⟩, _⟩ := hh
    have hsep := sep_word hs
    have hamp : ampB (b :: (x ++ sep :: rest)) = false := by
      rcases g9 with h | h
      · exact ampB_no h
      · subst h
        show (decide (b.toNat = 38) && decide (sep.toNat = 38)) = false
        rw [decide_eq_false (p := sep.toNat = 38) fun h => hsep.2.2.2.2.2 (UInt8.toNat_inj.1 h), Bool.and_false]
    rw [step_plain g1 g2 hamp (fun h => hstar (by
      rcases g8 with h8 | h8
      · exact absurd h h8
      · rw [h8, show b = 42 from UInt8.toNat_inj.1 h])) g3]
    have hdate : dateL (b :: (x ++ sep :: rest)) = none := by
      unfold dateL
      rcases g10 with h | h
      · have hne : b ≠ 123 := fun e => h (by rw [e]; rfl)
        rw [if_neg (fun e => hne (by rw [List.take_succ_cons] at e; exact (List.cons.inj e).1)), if_pos]
        refine .inr (.inl fun e => hne (by rw [List.take_succ_cons] at e; exact (List.cons.inj e).1))
      · subst h
        rw [if_neg (fun e => by
          have e : [b, sep] = [123, 125] := e
          exact hsep.2.2.2.1 (List.cons.inj (List.cons.inj e).2).1), if_pos]
        refine .inr (.inl fun e => ?_)
        have e : [b, sep] = [123, 94] := e
        exact hsep.2.2.2.2.1 (List.cons.inj (List.cons.inj e).2).1
    have hsg : signS (b :: (x ++ sep :: rest)) = some (b :: x) := sign_again hw hs rest
    unfold tokS
    rw [if_neg (by rw [g4]; decide), if_neg (by rw [g5]; decide), if_neg (by omega), hdate]
    dsimp only
    rw [hsg]
    simp
end Go.Proofs.YtlogipcgejfnnaaDoor

/- Lex: the source that the statements look at first: its tokens, and the source of these. The signs: the library's tables of letters and of bytes. -/
set_option maxRecDepth 100000
set_option linter.unusedVariables false
set_option linter.unusedSimpArgs false
namespace Go.Proofs.YtlogipcgejfnnaaDoor
open Go.Sh Go.Sh.Lx Go.RowKit
variable {w0 w w' : World}
def lexN : Nat -> List UInt8 -> Nat -> Bool -> Option LexOut
  | 0, _, _, _ => none
  | _ + 1, [], p, line => some (if line then [endT p] else [], none)
  | n + 1, b :: r, p, line => match stepS b r line with
    | .go m => lexN n (r.drop m) (p + 1 + m) line
    | .eol => (lexN n r (p + 1) false).map fun o => ((if line then [endT p] else []) ++ o.1, o.2)
    | .tok k t m => (lexN n (r.drop m) (p + 1 + m) true).map fun o => (⟨k, (p : Int), bs t⟩ :: o.1, o.2)
    | .bad i => some ([], some (p + i))
theorem lexN_ok : ∀ (n : Nat) (l : List UInt8) (p : Nat) (line : Bool) (o : LexOut), lexN n l p line = some o -> lexS l p line = o
  | 0, _, _, _, _, h => by cases h
  | n + 1, [], p, line, o, h => by rw [lexS_nil]; exact Option.some.inj h
  | n + 1, b :: r, p, line, o, h => by
    have h : (match stepS b r line with
      | .go m => lexN n (r.drop m) (p + 1 + m) line
      | .eol => (lexN n r (p + 1) false).map fun o => ((if line then [endT p] else []) ++ o.1, o.2)
      | .tok k t m => (lexN n (r.drop m) (p + 1 + m) true).map fun o => (⟨k, (p : Int), bs t⟩ :: o.1, o.2)
      | .bad i => some ([], some (p + i))) = some o := h
    cases hs : stepS b r line with
    | go m => rw [hs] at h; rw [lexS_go hs]; exact lexN_ok n _ _ _ _ h
    | eol =>
      rw [hs] at h
      obtain ⟨o', ho, rfl⟩ := Option.map_eq_some_iff.1 h
      rw [lexS_eol hs, lexN_ok n _ _ _ _ ho]
    | tok k t m =>
      rw [hs] at h
      obtain ⟨o', ho, rfl⟩ := Option.map_eq_some_iff.1 h
      rw [lexS_tok hs, lexN_ok n _ _ _ _ ho]
    | bad i => rw [hs] at h; rw [lexS_bad hs]; exact Option.some.inj h
def srcK : List UInt8 := [120, 32, 61, 32, 49, 32, 59, 32, 38, 38, 32, 97, 10, 43, 32, 50]
def srcJ : List UInt8 := [88, 32, 61, 32, 49, 32, 43, 32, 50, 10]
def toksK : List Tok := [⟨0, 0, bs [88]⟩, ⟨4, 2, bs [61]⟩, ⟨1, 4, bs [49]⟩, ⟨4, 13, bs [43]⟩, ⟨1, 15, bs [50]⟩, endT 16]
def toksJ : List Tok := [⟨0, 0, bs [88]⟩, ⟨4, 2, bs [61]⟩, ⟨1, 4, bs [49]⟩, ⟨4, 6, bs [43]⟩, ⟨1, 8, bs [50]⟩, endT 9]
theorem lexK : lexS srcK 0 false = (toksK, none) := lexN_ok 20 _ _ _ _ (by decide +kernel)
theorem lexJ : lexS srcJ 0 false = (toksJ, none) := lexN_ok 20 _ _ _ _ (by decide +kernel)
theorem lexF_of {d : List UInt8} {l : List Tok} (hd : d.length <= 4000) (h : lexS d 0 false = (l, none)) (hl : l.length <= 1200) : lexF d = (l, ((l.length : Nat) : Int), 0) := by
  unfold lexF
  rw [if_neg (by omega), h]
  dsimp only
  rw [if_neg (by omega)]
theorem lexF_K : lexF srcK = (toksK, 6, 0) := lexF_of (by decide) lexK (by decide)
theorem lexF_J : lexF srcJ = (toksJ, 6, 0) := lexF_of (by decide) lexJ (by decide)
theorem join_K : joinS false toksK = srcJ := by decide +kernel
theorem joinF_K : joinF toksK = (srcJ, 0) := by
  unfold joinF
  rw [join_K, lexF_J, if_neg (by decide), if_neg (by have : sameS toksJ toksK = true := by decide +kernel
                                                     simp [this])]
theorem textsK : texts toksK := by unfold texts; decide +kernel
theorem known_c (hL : Laid w) : Calls Tryd.prog 6 #[] w fun e w' => e = .returned (.bool true) /\ Pu w w' := by
  refine calls_by (F6_calls w) fun R hR => (lex_c hL srcK (by decide)).mono ?_
  rintro e w1 ⟨hp1, s, rfl, hrd⟩
  rw [lexF_K] at hrd ⊢
  refine ⟨s, _, _, rfl, (join_c (hL.pu hp1) hrd textsK (by decide +kernel)).mono ?_⟩
  rintro e w2 ⟨rfl, hp2⟩
  rw [joinF_K]
  refine ⟨_, _, rfl, ?_⟩
  refine hR _ _ ⟨?_, hp1.trans hp2⟩
  rw [show (⟨#[88, 32, 61, 32, 49, 32, 43, 32, 50, 10]⟩ : ByteArray) = bs srcJ from rfl, beq_self_eq_true]
end Go.Proofs.YtlogipcgejfnnaaDoor

/- Lex (second seat): a source that is made of the tokens of another one has the same tokens: that the statement answers true. The signs: the library's tables of letters and of bytes. -/
set_option maxRecDepth 100000
set_option linter.unusedVariables false
set_option linter.unusedSimpArgs false
namespace Go.Proofs.YtlogipcgejfnnaaDoor
open Go.Sh Go.Sh.Lx Go.RowKit
variable {w0 w w' : World}
theorem re_step {b : UInt8} {r : List UInt8} {line : Bool} {k : Int} {t : List UInt8} {m : Nat} (h : stepS b r line = .tok k t m) : ReTok line k t /\ (writL k t).length = m + 1 /\ k ≠ 5 := by
  unfold stepS at h
  split at h
  · cases h
  split at h
  · cases h
  split at h
  · split at h <;> cases h
  rename_i hstar
  split at h
  · split at h <;> cases h
  unfold tokS at h
  split at h
  · rename_i hb
    have e : (fun c => letB c || digB c) = wordB := rfl
    rw [e] at h
    dsimp only at h
    split at h
    · cases h
    · rename_i hl
      obtain ⟨rfl, rfl, rfl⟩ : (0 : Int) = k /\ ((b :: r).takeWhile wordB).map capU = t /\ ((b :: r).takeWhile wordB).length - 1 = m := by simpa using h
      obtain ⟨h1, h2⟩ := re_word (line := line) (r := r) hb (by omega)
      have hpos : 1 <= ((b :: r).takeWhile wordB).length := by
        rw [List.takeWhile_cons, if_pos (by unfold wordB; rw [hb]; rfl)]; simp
      exact ⟨h1, by rw [h2]; omega, by decide⟩
  split at h
  · rename_i hb
    dsimp only at h
    split at h
    · cases h
    · rename_i hl
      obtain ⟨rfl, rfl, rfl⟩ : (1 : Int) = k /\ (b :: r).takeWhile digB = t /\ ((b :: r).takeWhile digB).length - 1 = m := by simpa using h
      have hpos : 1 <= ((b :: r).takeWhile digB).length := by rw [List.takeWhile_cons, if_pos hb]; simp
      exact ⟨re_num hb (by omega), by rw [writL_at 1 _ (by decide) (by decide)]; omega, by decide⟩
  split at h
  · rename_i hq
    unfold quoteS at h
    dsimp only at h
    split at h
    · split at h
      · cases h
      · rename_i hbad
        obtain ⟨rfl, rfl, rfl⟩ : (2 : Int) = k /\ r.takeWhile (fun c => !nlB c && !decide (c = b)) = t /\ (r.takeWhile (fun c => !nlB c && !decide (c = b))).length + 1 = m := by simpa using h
        obtain ⟨h1, h2⟩ := re_quote (line := line) hq hbad
        exact ⟨h1, by rw [h2], by decide⟩
    · cases h
  split at h
  · rename_i d n hd
    obtain ⟨rfl, rfl, rfl⟩ : (3 : Int) = k /\ d = t /\ n - 1 = m := by simpa using h
    obtain ⟨h1, h2⟩ := re_date (line := line) hd
    have hpos : 1 <= (writL 3 d).length := by obtain ⟨_, _, h, _⟩ := h1; rw [h]; simp
    exact ⟨h1, by omega, by decide⟩
  · split at h
    · rename_i x hx
      obtain ⟨rfl, rfl, rfl⟩ : (4 : Int) = k /\ x = t /\ x.length - 1 = m := by simpa using h
      have hmem : x ∈ signsS := by unfold signS at hx; exact List.mem_of_find?_eq_some hx
      have hst : x = [42] -> line = true := fun e => by
        subst e
        unfold signS at hx
        have h9 := List.find?_some hx
        have h9 := of_decide_eq_true h9
        have h9 : [capU b] = [42] := h9
        have hb : b = 42 := by
          have h8 := (List.cons.inj h9).1
          have : ∀ n : Nat, n < 256 -> capU (UInt8.ofNat n) = 42 -> UInt8.ofNat n = 42 := by decide +kernel
          have h7 := this b.toNat b.toNat_lt
          rw [UInt8.ofNat_toNat] at h7
          exact h7 h8
        subst hb
        cases line with
        | true => rfl
        | false => exact absurd (by rw [Bool.or_eq_true]; exact .inr (by decide)) hstar
      have h1 := re_sign (line := line) hmem hst
      have hpos : 1 <= x.length := by
        have := heads_ok x hmem
        cases x with
        | nil => cases this
        | cons a c => simp
      exact ⟨h1, by rw [writL_at 4 _ (by decide) (by decide)]; omega, by decide⟩
    · cases h
def WfL : Bool -> List Tok -> Prop
  | line, [] => line = false
  | line, t :: l => if t.kind = 5 then line = true /\ t.text = ⟨#[]⟩ /\ WfL false l else (ReTok line t.kind t.text.data.toList /\ WfL true l)
theorem WfL_end {l : List Tok} {p : Nat} (h : WfL false l) : WfL true (endT p :: l) := by
  show if (endT p).kind = 5 then _ else _
  rw [if_pos (show (endT p).kind = 5 from rfl)]
  exact ⟨rfl, rfl, h⟩
theorem WfL_tok {l : List Tok} {line : Bool} {k : Int} {p : Int} {t : List UInt8} (hk : k ≠ 5) (h1 : ReTok line k t) (h : WfL true l) : WfL line (⟨k, p, bs t⟩ :: l) := by
  show if k = 5 then _ else (ReTok line k (bs t).data.toList /\ _)
  rw [if_neg hk, bs_list]
  exact ⟨h1, h⟩
def oneB (b : Bool) : Nat := if b then 1 else 0
theorem join_end (g : Bool) (p : Nat) (l : List Tok) : joinS g (endT p :: l) = 10 :: joinS false l := by
  show (if (endT p).kind = 5 then _ else _) = _
  rw [if_pos (show (endT p).kind = 5 from rfl)]
theorem join_tok (g : Bool) {k : Int} (p : Int) (t : List UInt8) (l : List Tok) (hk : k ≠ 5) : joinS g (⟨k, p, bs t⟩ :: l) = (if g then [32] else []) ++ writL k t ++ joinS true l := by
  show (if k = 5 then _ else (if g then [32] else []) ++ writS ⟨k, p, bs t⟩ ++ joinS true l) = _
  rw [if_neg hk, writS_bs]
theorem lexS_wf : ∀ (n : Nat) (r : List UInt8) (p : Nat) (line : Bool), r.length <= n -> (lexS r p line).2 = none -> WfL line (lexS r p line).1 /\ (joinS line (lexS r p line).1).length <= 2 * r.length + oneB line := by
  have ends : ∀ (p : Nat) (line : Bool), WfL line (if line then [endT p] else []) /\ (joinS line (if line then [endT p] else [])).length <= 0 + oneB line := by
    intro p line
    cases line with
    | false => exact ⟨rfl, by simp [joinS, oneB]⟩
    | true => exact ⟨WfL_end (l := []) rfl, by show (joinS true [endT p]).length <= _; rw [join_end]; simp [joinS, oneB]⟩
  intro n
  induction n with
  | zero =>
    intro r p line h _
    obtain rfl : r = [] := List.eq_nil_of_length_eq_zero (by omega)
    rw [lexS_nil]
    exact ends p line
  | succ n ih =>
    intro r p line h hnone
    cases r with
    | nil => rw [lexS_nil]; exact ends p line
    | cons x r =>
      have hr : r.length <= n := by simpa using h
      have hd : ∀ m, (r.drop m).length <= r.length := fun m => by rw [List.length_drop]; omega
      cases hs : stepS x r line with
      | go m =>
        rw [lexS_go hs] at hnone ⊢
        obtain ⟨h1, h2⟩ := ih (r.drop m) (p + 1 + m) line (Nat.le_trans (hd m) hr) hnone
        exact ⟨h1, by have := hd m; rw [List.length_cons]; omega⟩
      | eol =>
        rw [lexS_eol hs] at hnone ⊢
        obtain ⟨h1, h2⟩ := ih r (p + 1) false hr hnone
        cases line with
        | false => exact ⟨h1, by show (joinS false (lexS r (p + 1) false).1).length <= _; rw [List.length_cons]; unfold oneB at h2 ⊢; simp at h2 ⊢; omega⟩
        | true => exact ⟨WfL_end h1, by
            show (joinS true (endT p :: (lexS r (p + 1) false).1)).length <= _
            rw [join_end, List.length_cons, List.length_cons]; unfold oneB at h2 ⊢; simp at h2 ⊢; omega⟩
      | tok k t m =>
        rw [lexS_tok hs] at hnone ⊢
        obtain ⟨h1, h2⟩ := ih (r.drop m) (p + 1 + m) true (Nat.le_trans (hd m) hr) hnone
        obtain ⟨g1, g2, g3⟩ := re_step hs
        have hm := (stepS_tok hs).1
        refine ⟨WfL_tok g3 g1 h1, ?_⟩
        rw [join_tok line _ t _ g3, List.length_append, List.length_append, g2, List.length_cons]
        rw [List.length_drop] at h2
        have hif : (if line then [(32 : UInt8)] else []).length = oneB line := by cases line <;> rfl
        rw [hif]
        unfold oneB at h2 ⊢
        simp only [if_true] at h2
        omega
      | bad i => rw [lexS_bad hs] at hnone; cases hnone
theorem join_head {l : List Tok} (h : WfL true l) : ∃ sep rest, sepB sep /\ joinS true l = sep :: rest := by
  cases l with
  | nil => cases h
  | cons t l =>
    by_cases hk : t.kind = 5
    · exact ⟨10, _, .inr rfl, by show (if t.kind = 5 then 10 :: joinS false l else _) = _; rw [if_pos hk]⟩
    · exact ⟨32, _, .inl rfl, by show (if t.kind = 5 then _ else (if true then [32] else []) ++ writS t ++ joinS true l) = _; rw [if_neg hk]; rfl⟩
theorem round : ∀ (l : List Tok) (line : Bool) (p : Nat), WfL line l -> (lexS (joinS line l) p line).2 = none /\ (lexS (joinS line l) p line).1.map keyT = l.map keyT
  | [], line, p, h => by
    have h : line = false := h
    subst h
    have e : joinS false [] = [] := rfl
    rw [e, lexS_nil]; exact ⟨rfl, rfl⟩
  | t :: l, line, p, h => by
    have h : if t.kind = 5 then line = true /\ t.text = ⟨#[]⟩ /\ WfL false l else (ReTok line t.kind t.text.data.toList /\ WfL true l) := h
    by_cases hk : t.kind = 5
    · rw [if_pos hk] at h
      obtain ⟨rfl, htx, hw⟩ := h
      have e : joinS true (t :: l) = 10 :: joinS false l := by show (if t.kind = 5 then 10 :: joinS false l else _) = _; rw [if_pos hk]
      have hs : stepS 10 (joinS false l) true = .eol := by unfold stepS; rw [if_pos (by decide)]
      obtain ⟨h1, h2⟩ := round l false (p + 1) hw
      rw [e, lexS_eol hs]
      refine ⟨h1, ?_⟩
      show keyT (endT p) :: (lexS (joinS false l) (p + 1) false).1.map keyT = keyT t :: l.map keyT
      rw [h2]
      have : keyT (endT p) = keyT t := by unfold keyT; rw [hk, htx]; rfl
      rw [this]
    · rw [if_neg hk] at h
      obtain ⟨⟨b, x, hwr, hre⟩, hw⟩ := h
      obtain ⟨sep, rest, hsep, hj⟩ := join_head hw
      have hstep := hre sep rest hsep
      have key : ∀ p : Nat, (lexS (writS t ++ joinS true l) p line).2 = none /\ (lexS (writS t ++ joinS true l) p line).1.map keyT = keyT t :: l.map keyT := fun p => by
        have e : writS t ++ joinS true l = b :: (x ++ sep :: rest) := by unfold writS; rw [hwr, hj]; rfl
        have ed : (x ++ sep :: rest).drop x.length = joinS true l := by rw [hj, List.drop_left]
        obtain ⟨h1, h2⟩ := round l true (p + 1 + x.length) hw
        rw [e, lexS_tok hstep, ed]
        refine ⟨h1, ?_⟩
        rw [List.map_cons, h2]
        have : keyT ⟨t.kind, (p : Int), bs t.text.data.toList⟩ = keyT t := by unfold keyT; rw [list_bs]
        rw [this]
      have e : joinS line (t :: l) = (if line then [32] else []) ++ writS t ++ joinS true l := by show (if t.kind = 5 then _ else (if line then [32] else []) ++ writS t ++ joinS true l) = _; rw [if_neg hk]
      rw [e]
      cases line with
      | false => exact key p
      | true =>
        have hs : stepS 32 (writS t ++ joinS true l) true = .go 0 := by unfold stepS; rw [if_neg (by decide), if_pos (by decide)]
        show (lexS (32 :: (writS t ++ joinS true l)) p true).2 = none /\ (lexS (32 :: (writS t ++ joinS true l)) p true).1.map keyT = _
        rw [lexS_go hs]
        exact key _
theorem joinF_back {d : List UInt8} (h : (lexF d).2.2 = 0) : (joinF (lexF d).1 = ([], 3) /\ 1333 < d.length) ∨ ((joinF (lexF d).1).2 = 0 /\ (lexF (joinF (lexF d).1).1).2.2 = 0 /\ sameS (lexF d).1 (lexF (joinF (lexF d).1).1).1 = true) := by
  obtain ⟨h1, h2, h3, h4⟩ := lexF_ok h
  obtain ⟨g1, g2⟩ := lexS_wf d.length d 0 false (Nat.le_refl _) h2
  rw [← h1] at g1 g2
  generalize (lexF d).1 = T at h3 g1 g2 ⊢
  have g2 : (joinS false T).length <= 2 * d.length := by unfold oneB at g2; simpa using g2
  obtain ⟨r1, r2⟩ := round T false 0 g1
  by_cases hl : 4000 < (joinS false T).length
  · left
    have e : lexF (joinS false T) = ([], 0, 3) := by unfold lexF; rw [if_pos hl]
    refine ⟨?_, by omega⟩
    unfold joinF
    rw [e, if_pos (by decide)]
  · right
    have hlen : (lexS (joinS false T) 0 false).1.length = T.length := by have := congrArg List.length r2; simpa using this
    have e : lexF (joinS false T) = ((lexS (joinS false T) 0 false).1, ((lexS (joinS false T) 0 false).1.length : Int), 0) := lexF_of (by omega) (Prod.ext rfl r1) (by omega)
    have hsame : sameS (lexS (joinS false T) 0 false).1 T = true := decide_eq_true r2
    have hsame2 : sameS T (lexS (joinS false T) 0 false).1 = true := decide_eq_true r2.symm
    have ej : joinF T = (joinS false T, 0) := by
      unfold joinF
      rw [e]
      dsimp only
      rw [if_neg (by decide), if_neg (by rw [hsame]; decide)]
    rw [ej, e]
    exact ⟨rfl, rfl, hsame2⟩
theorem back_c (w : World) (hL : Laid w) (s : ByteArray) (hs : s.size <= 140737488355328) : Calls Tryd.prog 3 #[.string s] w fun e w' => e = .returned (.bool true) /\ Pu w w' := by
  obtain ⟨d, rfl, _⟩ := text_bs s
  rw [bs_size] at hs
  refine calls_by (F3_calls _ w) fun R hR => ?_
  have kn : ∀ {w2 : World}, Pu w w2 -> Calls Tryd.prog 6 #[] w2 fun e w3 => ∃ b11 : Bool, e = .returned (.bool b11) /\ R (.returned (.bool b11)) w3 := fun {w2} hp1 => by
    refine (known_c (hL.pu hp1)).mono ?_
    rintro e w3 ⟨rfl, hp⟩
    exact ⟨_, rfl, hR _ _ ⟨rfl, hp1.trans hp⟩⟩
  refine Br.of (fun _ => kn (Pu.refl _)) (fun q => ?_)
  have q := dfalse q
  rw [bs_size] at q
  refine (lex_c hL d (by omega)).mono ?_
  rintro e w1 ⟨hp1, s1, rfl, hrd⟩
  refine ⟨s1, _, _, rfl, Br.of (fun _ => kn hp1) (fun q1 => ?_)⟩
  have q1 := bnfalse q1
  obtain ⟨htx, hlast, hlen⟩ := lexF_texts q1
  have hsz : sizeT (lexF d).1 <= 140737488355328 := Nat.le_trans (sizeT_le htx) (Nat.le_trans (Nat.mul_le_mul_right _ hlen) (by omega))
  refine (join_c (hL.pu hp1) hrd (fun t ht => by have := htx t ht; omega) hsz).mono ?_
  rintro e w2 ⟨rfl, hp2⟩
  have hP2 := hp1.trans hp2
  refine ⟨_, _, rfl, ?_⟩
  rcases joinF_back q1 with ⟨hj, h13⟩ | ⟨hj0, hl0, hsm⟩
  · rw [hj]
    refine Br.t (by decide) (Br.t (decide_eq_true (by rw [bs_size]; omega)) (kn hP2))
  · have hjl : (joinF (lexF d).1).1.length <= 4000 := (lexF_ok hl0).2.2.2
    refine Br.f (by rw [hj0]; decide) ((lex_c (hL.pu hP2) _ (by omega)).mono ?_)
    rintro e w3 ⟨hp3, s2, rfl, hrd2⟩
    have hP3 := hP2.trans hp3
    refine ⟨s2, _, _, rfl, Br.t (by rw [hj0]; decide) (Br.t (by rw [hl0]; decide) ((same_c ((hrd.pu hp2).pu hp3) hrd2).mono ?_))⟩
    rintro e w4 ⟨rfl, hp4⟩
    exact ⟨_, rfl, Br.t hsm (kn (hP3.trans hp4))⟩
end Go.Proofs.YtlogipcgejfnnaaDoor
