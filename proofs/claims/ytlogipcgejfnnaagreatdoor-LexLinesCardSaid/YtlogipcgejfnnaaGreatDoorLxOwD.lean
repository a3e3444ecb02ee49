import Derived.Test.YtlogipcgejfnnaaGreatDoorLxOwC
import Derived.Test.YtlogipcgejfnnaaGreatDoorLxPrB
/- Lex: the text of tokens, as both packages make it. No condition but those stated. -/
set_option maxRecDepth 100000
set_option linter.unusedVariables false
set_option linter.unusedSimpArgs false
namespace Go.Proofs.YtlogipcgejfnnaaGreatDoor
open Go.Sh Go.Sh.Lx Go.RowKit
variable {w0 w w' : World}
def writL (k : Int) (x : List UInt8) : List UInt8 :=
  if k = 2 then (if x.contains 34 then 39 :: (x ++ [39]) else 34 :: (x ++ [34]))
  else if k = 3 then (if x.length ≠ 8 then 123 :: (x ++ [125]) else [123, 94] ++ x.take 4 ++ [45] ++ (x.drop 4).take 2 ++ [45] ++ x.drop 6 ++ [125])
  else x
def writS (t : Tok) : List UInt8 := writL t.kind t.text.data.toList
theorem writS_bs (k a : Int) (x : List UInt8) : writS ⟨k, a, bs x⟩ = writL k x := by unfold writS; rw [bs_list]
def joinS : Bool -> List Tok -> List UInt8
  | _, [] => []
  | g, t :: l => if t.kind = 5 then 10 :: joinS false l else (if g then [32] else []) ++ writS t ++ joinS true l
theorem writS_len (t : Tok) : (writS t).length <= t.text.size + 5 := by
  have hs : t.text.data.toList.length = t.text.size := size_list t.text
  unfold writS writL
  split
  · split <;> (simp only [List.length_cons, List.length_append, List.length_nil]; omega)
  · split
    · split
      · simp only [List.length_cons, List.length_append, List.length_nil]; omega
      · rename_i h8
        have h8 : t.text.data.toList.length = 8 := by simpa using h8
        simp only [List.length_append, List.length_cons, List.length_nil, List.length_take, List.length_drop]; omega
    · omega
def sizeT (l : List Tok) : Nat := (l.map fun t => t.text.size + 6).sum
theorem joinS_len : ∀ (g : Bool) (l : List Tok), (joinS g l).length <= sizeT l
  | _, [] => by simp [joinS, sizeT]
  | g, t :: l => by
    have h1 := joinS_len false l
    have h2 := joinS_len true l
    have h3 := writS_len t
    unfold joinS
    have hs : sizeT (t :: l) = t.text.size + 6 + sizeT l := by unfold sizeT; simp
    rw [hs]
    split
    · simp; omega
    · rw [List.length_append, List.length_append]
      cases g <;> simp <;> omega
theorem text_bs (s : ByteArray) : ∃ l, s = bs l /\ s.data.toList = l := ⟨s.data.toList, (list_bs s).symm, rfl⟩
theorem contains_index (l : List UInt8) (c : UInt8) : decide (0 <= Lib.indexByte l c) = l.contains c := by
  rw [indexByte_tw]
  by_cases h : (l.takeWhile fun b => !decide (b = c)).length < l.length
  · rw [if_pos h, decide_eq_true (by omega)]
    obtain ⟨x, hx⟩ := at_k h
    have h2 := tw_end (f := fun b => !decide (b = c)) hx
    have h3 : x = c := by simpa using h2
    have : c ∈ l := by rw [← h3]; exact List.mem_of_getElem? hx
    exact (by simpa using this)
  · rw [if_neg h, decide_eq_false (by omega)]
    symm
    have hle := tw_le (fun b => !decide (b = c)) l
    have hall : ∀ x ∈ l, x ≠ c := fun x hx e => by
      obtain ⟨j, hj⟩ := List.mem_iff_getElem?.1 hx
      have hjl := (List.getElem?_eq_some_iff.1 hj).1
      obtain ⟨y, hy, hf⟩ := tw_lt (f := fun b => !decide (b = c)) (l := l) (k := j) (by omega)
      rw [hj] at hy; cases hy
      rw [e] at hf; simp at hf
    simp only [List.contains_eq_mem, decide_eq_false_iff_not]
    intro hm; exact hall c hm rfl
theorem quote_c (l : List UInt8) (w : World) : Calls Tryz.prog 74 #[.string (bs l), .string (⟨#[34]⟩ : ByteArray)] w fun e w' => e = .returned (.bool (l.contains 34)) /\ w' = w := by
  refine (Any.strings_Contains_one Tryz.lays144 (bs l) 34 w).mono ?_
  rintro e w' ⟨rfl, rfl⟩
  rw [bs_list, contains_index]; exact ⟨rfl, rfl⟩
theorem has_c (l : List UInt8) (hl : l.length <= 140737488355328) (w : World) : Calls Tryz.prog 75 #[.string (bs l), .int .u8 34] w fun e w' => e = .returned (.bool (l.contains 34)) /\ w' = w := by
  refine calls_by (F75_calls _ _ w) fun R hR => loopUp l.length (fun k n w' => n = (k : Int) /\ w' = w /\ l.contains 34 = (l.drop k).contains 34) ⟨rfl, rfl, rfl⟩ ?_
  rintro k J n w1 hk ⟨rfl, rfl, hc⟩ hJ
  refine Br.of (fun q => ?_) (fun q => hR _ _ ⟨?_, rfl⟩)
  · have q := dtrue q
    rw [bs_size_i] at q
    have hk2 : k < l.length := by omega
    obtain ⟨x, hx⟩ := at_k hk2
    rw [drop_at hx, List.contains_cons] at hc
    have e34 : (((x.toNat : Nat) : Int) == 34) = (34 == x) := by
      rw [beq_dec]
      by_cases e : x = 34
      · subst e; rfl
      · have h1 : (34 == x) = false := by simp; exact fun h => e h.symm
        rw [h1]; exact decide_eq_false fun h => e (UInt8.toNat_inj.1 (by show x.toNat = 34; omega))
    refine ⟨x, by omega, by rw [toNat_i]; exact bs_get hx, ?_⟩
    rw [e34]
    refine Br.of (fun q2 => hR _ _ ⟨by rw [hc, q2]; rfl, rfl⟩) (fun q2 => ?_)
    rw [q2, Bool.false_or] at hc
    rw [wrap_in (by omega) (by omega)]
    exact hJ _ _ hk2 ⟨by omega, rfl, hc⟩
  · have q := dfalse q
    rw [bs_size_i] at q
    rw [hc, List.drop_eq_nil_of_le (by omega)]; rfl
theorem cat_bs (a b : List UInt8) : ((bs a).size + (bs b).size : Nat) = a.length + b.length := by rw [bs_size, bs_size]
theorem date_text {x : List UInt8} (h8 : x.length = 8) : (((((((⟨#[123, 94]⟩ : ByteArray) ++ ((bs x).extract 0 ((4 : Int).toNat))) ++ (⟨#[45]⟩ : ByteArray)) ++ ((bs x).extract ((4 : Int).toNat) ((6 : Int).toNat))) ++ (⟨#[45]⟩ : ByteArray)) ++ ((bs x).extract ((6 : Int).toNat) (bs x).size)) ++ (⟨#[125]⟩ : ByteArray)) =
    bs ([123, 94] ++ x.take 4 ++ [45] ++ (x.drop 4).take 2 ++ [45] ++ x.drop 6 ++ [125]) := by
  have e1 : (⟨#[123, 94]⟩ : ByteArray) = bs [123, 94] := rfl
  have e2 : (⟨#[45]⟩ : ByteArray) = bs [45] := rfl
  have e3 : (⟨#[125]⟩ : ByteArray) = bs [125] := rfl
  have i4 : (4 : Int).toNat = 4 := rfl
  have i6 : (6 : Int).toNat = 6 := rfl
  rw [e1, e2, e3, i4, i6, extract_take, extract_take, extract_drop, List.drop_zero, List.drop_take, bs_append, bs_append, bs_append, bs_append, bs_append, bs_append]
theorem date_sizes {x : List UInt8} (h8 : x.length = 8) :
    (((⟨#[123, 94]⟩ : ByteArray).size + ((bs x).extract 0 ((4 : Int).toNat)).size : Nat) : Int) <= 9223372036854775807 /\
    ((((⟨#[123, 94]⟩ : ByteArray) ++ ((bs x).extract 0 ((4 : Int).toNat))).size + (⟨#[45]⟩ : ByteArray).size : Nat) : Int) <= 9223372036854775807 /\
    (((((⟨#[123, 94]⟩ : ByteArray) ++ ((bs x).extract 0 ((4 : Int).toNat))) ++ (⟨#[45]⟩ : ByteArray)).size + ((bs x).extract ((4 : Int).toNat) ((6 : Int).toNat)).size : Nat) : Int) <= 9223372036854775807 /\
    ((((((⟨#[123, 94]⟩ : ByteArray) ++ ((bs x).extract 0 ((4 : Int).toNat))) ++ (⟨#[45]⟩ : ByteArray)) ++ ((bs x).extract ((4 : Int).toNat) ((6 : Int).toNat))).size + (⟨#[45]⟩ : ByteArray).size : Nat) : Int) <= 9223372036854775807 /\
    (((((((⟨#[123, 94]⟩ : ByteArray) ++ ((bs x).extract 0 ((4 : Int).toNat))) ++ (⟨#[45]⟩ : ByteArray)) ++ ((bs x).extract ((4 : Int).toNat) ((6 : Int).toNat))) ++ (⟨#[45]⟩ : ByteArray)).size + ((bs x).extract ((6 : Int).toNat) (bs x).size).size : Nat) : Int) <= 9223372036854775807 /\
    ((((((((⟨#[123, 94]⟩ : ByteArray) ++ ((bs x).extract 0 ((4 : Int).toNat))) ++ (⟨#[45]⟩ : ByteArray)) ++ ((bs x).extract ((4 : Int).toNat) ((6 : Int).toNat))) ++ (⟨#[45]⟩ : ByteArray)) ++ ((bs x).extract ((6 : Int).toNat) (bs x).size)).size + (⟨#[125]⟩ : ByteArray).size : Nat) : Int) <= 9223372036854775807 := by
  have e1 : (⟨#[123, 94]⟩ : ByteArray) = bs [123, 94] := rfl
  have e2 : (⟨#[45]⟩ : ByteArray) = bs [45] := rfl
  have e3 : (⟨#[125]⟩ : ByteArray) = bs [125] := rfl
  have i4 : (4 : Int).toNat = 4 := rfl
  have i6 : (6 : Int).toNat = 6 := rfl
  rw [e1, e2, e3, i4, i6, extract_take, extract_take, extract_drop, List.drop_zero, List.drop_take, bs_append, bs_append, bs_append, bs_append, bs_append]
  simp only [cat_bs, List.length_append, List.length_take, List.length_drop, List.length_cons, List.length_nil, h8]
  omega
theorem quoted_cat (q : UInt8) (x : List UInt8) : ((⟨#[q]⟩ : ByteArray) ++ bs x) ++ (⟨#[q]⟩ : ByteArray) = bs (q :: (x ++ [q])) := by
  have e : (⟨#[q]⟩ : ByteArray) = bs [q] := rfl
  rw [e, bs_append, bs_append]; rfl
theorem brace_cat (x : List UInt8) : ((⟨#[123]⟩ : ByteArray) ++ bs x) ++ (⟨#[125]⟩ : ByteArray) = bs (123 :: (x ++ [125])) := by
  have e : (⟨#[123]⟩ : ByteArray) = bs [123] := rfl
  have e2 : (⟨#[125]⟩ : ByteArray) = bs [125] := rfl
  rw [e, e2, bs_append, bs_append]; rfl
theorem cat1_le (a c : UInt8) (x : List UInt8) (hx : x.length <= 140737488355328) : (((⟨#[a]⟩ : ByteArray).size + (bs x).size : Nat) : Int) <= 9223372036854775807 /\ ((((⟨#[a]⟩ : ByteArray) ++ bs x).size + (⟨#[c]⟩ : ByteArray).size : Nat) : Int) <= 9223372036854775807 := by
  have e : (⟨#[a]⟩ : ByteArray) = bs [a] := rfl
  have e2 : (⟨#[c]⟩ : ByteArray) = bs [c] := rfl
  rw [e, e2, bs_append, cat_bs, cat_bs]
  simp only [List.length_append, List.length_cons, List.length_nil]
  omega
theorem written_c (t : Tok) (ht : t.text.size <= 140737488355328) (w : World) : Calls Tryz.prog 48 #[.agg (tokV t).toArray] w fun e w' => e = .returned (.string (bs (writS t))) /\ Pu w w' := by
  obtain ⟨k, a, s⟩ := t
  obtain ⟨x, rfl, hx⟩ := text_bs s
  have hxl : x.length <= 140737488355328 := by have h := ht; rw [bs_size] at h; exact h
  rw [writS_bs]
  unfold writL
  refine calls_by (F48_calls _ _ _ w) fun R hR => alB fun w1 hp1 hb1 => ⟨_, cl0 hb1, ?_⟩
  refine Br.of (fun q => ⟨_, cl hb1 2, (quote_c x w1).mono ?_⟩) (fun q => ?_)
  · have q := btrue q
    rw [if_pos q] at hR
    rintro e w2 ⟨rfl, rfl⟩
    refine ⟨_, rfl, Br.of (fun q2 => ?_) (fun q2 => ?_)⟩
    · rw [if_pos q2] at hR
      obtain ⟨z1, z2⟩ := cat1_le 39 39 x hxl
      exact ⟨_, cl hb1 2, z1, z2, hR _ _ ⟨by rw [quoted_cat], hp1⟩⟩
    · rw [if_neg (by rw [q2]; simp)] at hR
      obtain ⟨z1, z2⟩ := cat1_le 34 34 x hxl
      exact ⟨_, cl hb1 2, z1, z2, hR _ _ ⟨by rw [quoted_cat], hp1⟩⟩
  · have q := bfalse q
    rw [if_neg q] at hR
    refine Br.of (fun q2 => ⟨_, cl hb1 2, Br.of (fun q3 => ?_) (fun q3 => ?_)⟩) (fun q2 => ⟨_, cl hb1 2, hR _ _ ⟨?_, hp1⟩⟩)
    · have q2 := btrue q2
      have q3 := bntrue q3
      rw [bs_size_i] at q3
      rw [if_pos q2, if_pos (by omega)] at hR
      obtain ⟨z1, z2⟩ := cat1_le 123 125 x hxl
      exact ⟨_, cl hb1 2, z1, z2, hR _ _ ⟨by rw [brace_cat], hp1⟩⟩
    · have q2 := btrue q2
      have q3 := bnfalse q3
      rw [bs_size_i] at q3
      have h8 : x.length = 8 := by omega
      rw [if_pos q2, if_neg (by omega)] at hR
      refine dwE_intro fun w2 hp2 _ => ?_
      have hb2 := hp2.blk hb1
      have hsz : (bs x).size = 8 := by rw [bs_size]; exact h8
      obtain ⟨z1, z2, z3, z4, z5, z6⟩ := date_sizes h8
      refine ⟨_, cl hb2 2, by omega, by rw [hsz]; decide, by omega, z1, z2, _, cl hb2 2, by omega, by rw [hsz]; decide, by omega, by decide, z3, z4, _, cl hb2 2, Nat.le_refl _, by omega, by rw [hsz]; decide, z5, z6, hR _ _ ⟨?_, hp1.trans hp2⟩⟩
      rw [date_text h8]
    · rw [if_neg (bfalse q2)]
theorem rwritten_c (t : Tok) (ht : t.text.size <= 140737488355328) (w : World) : Calls Tryz.prog 52 #[.agg (tokV t).toArray] w fun e w' => e = .returned (.string (bs (if t.kind = 5 then [10] else writS t))) /\ Pu w w' := by
  obtain ⟨k, a, s⟩ := t
  obtain ⟨x, rfl, hx⟩ := text_bs s
  have hxl : x.length <= 140737488355328 := by have h := ht; rw [bs_size] at h; exact h
  rw [writS_bs]
  unfold writL
  dsimp only
  refine calls_by (F52_calls _ _ _ w) fun R hR => alB fun w1 hp1 hb1 => ⟨_, cl0 hb1, ?_⟩
  refine Br.of (fun q => ⟨_, cl hb1 2, (has_c x hxl w1).mono ?_⟩) (fun q => ?_)
  · have q : k = 2 := btrue q
    rw [if_neg (by omega), if_pos q] at hR
    rintro e w2 ⟨rfl, rfl⟩
    refine ⟨_, rfl, Br.of (fun q2 => ?_) (fun q2 => ?_)⟩
    · rw [if_pos q2] at hR
      obtain ⟨z1, z2⟩ := cat1_le 39 39 x hxl
      exact ⟨_, cl hb1 2, z1, z2, hR _ _ ⟨by rw [quoted_cat], hp1⟩⟩
    · rw [if_neg (by rw [q2]; simp)] at hR
      obtain ⟨z1, z2⟩ := cat1_le 34 34 x hxl
      exact ⟨_, cl hb1 2, z1, z2, hR _ _ ⟨by rw [quoted_cat], hp1⟩⟩
  · have q : ¬ k = 2 := bfalse q
    refine Br.of (fun q2 => ⟨_, cl hb1 2, Br.of (fun q3 => ?_) (fun q3 => ?_)⟩) (fun q2 => Br.of (fun q3 => hR _ _ ⟨?_, hp1⟩) (fun q3 => ⟨_, cl hb1 2, hR _ _ ⟨?_, hp1⟩⟩))
    · have q2 : k = 3 := btrue q2
      have q3 := bntrue q3
      rw [bs_size_i] at q3
      rw [if_neg (by omega), if_neg q, if_pos q2, if_pos (by omega)] at hR
      obtain ⟨z1, z2⟩ := cat1_le 123 125 x hxl
      exact ⟨_, cl hb1 2, z1, z2, hR _ _ ⟨by rw [brace_cat], hp1⟩⟩
    · have q2 : k = 3 := btrue q2
      have q3 := bnfalse q3
      rw [bs_size_i] at q3
      have h8 : x.length = 8 := by omega
      rw [if_neg (by omega), if_neg q, if_pos q2, if_neg (by omega)] at hR
      refine dwE_intro fun w2 hp2 _ => ?_
      have hb2 := hp2.blk hb1
      have hsz : (bs x).size = 8 := by rw [bs_size]; exact h8
      obtain ⟨z1, z2, z3, z4, z5, z6⟩ := date_sizes h8
      refine ⟨_, cl hb2 2, by omega, by rw [hsz]; decide, by omega, z1, z2, _, cl hb2 2, by omega, by rw [hsz]; decide, by omega, by decide, z3, z4, _, cl hb2 2, Nat.le_refl _, by omega, by rw [hsz]; decide, z5, z6, hR _ _ ⟨?_, hp1.trans hp2⟩⟩
      rw [date_text h8]
    · rw [if_pos (btrue q3)]
    · have q2 : ¬ k = 3 := bfalse q2
      have q3 : ¬ k = 5 := bfalse q3
      rw [if_neg q3, if_neg q, if_neg q2]
end Go.Proofs.YtlogipcgejfnnaaGreatDoor

/- Lex: the text of tokens, and the source that is made of them, as both packages make it. The signs: what the library's tables of letters and of bytes lay. -/
set_option maxRecDepth 100000
set_option linter.unusedVariables false
set_option linter.unusedSimpArgs false
namespace Go.Proofs.YtlogipcgejfnnaaGreatDoor
open Go.Sh Go.Sh.Lx Go.RowKit
variable {w0 w w' : World}
abbrev Bld (b : Nat) (acc : List UInt8) (w : World) : Prop := Lib.IsBuilderF 72 5 b b (Lib.byteCells acc) w
theorem Bld.pu {b : Nat} {acc : List UInt8} (h : Bld b acc w) (hp : Pu w w') : Bld b acc w' := by
  have one : ∀ {p}, Lib.BuilderAtF 72 5 b b p (Lib.byteCells acc) w -> Lib.BuilderAtF 72 5 b b p (Lib.byteCells acc) w' := by
    rintro p ⟨hB, v, hb, ⟨hl, ho⟩, hne⟩
    refine ⟨hB, v, hp.blk hb, ⟨hl, ?_⟩, hne⟩
    rcases ho with ho | ⟨g, cap, cur, fz, h1, h2, h3, h4⟩
    · exact .inl ho
    · exact .inr ⟨g, cap, cur, fz, h1, h2, hp.blk h3, h4⟩
  exact h.elim (fun h => .inl (one h)) (fun h => .inr (one h))
theorem Bld.new {b : Nat} (hb : w.heap[b]? = some (.cells #[.pointer none, .slice none 0 0] 72)) : Bld b [] w :=
  .inl ⟨Nat.le_refl _, .slice none 0 0, hb, ⟨rfl, .inl ⟨rfl, rfl⟩⟩, by simp [Value.ownBlock]⟩
theorem writeString_c {b : Nat} {acc : List UInt8} (s : List UInt8) (h : Bld b acc w) (hl : acc.length + s.length <= 140737488355328) (hB : b <= w.heap.size) :
    Calls Tryz.prog 47 #[.pointer (some ⟨b, 0, none⟩), .string (bs s)] w fun e w' => e = .returned (.tuple #[.int .i64 (s.length : Nat), .nilIface]) /\ Bld b (acc ++ s) w' /\ Below b w w' /\ Lib.OthersKept 5 (some b) w w' := by
  refine (Any.Builder_WriteString_k Tryz.lays166 Tryz.Builder_Extra_158 b b (Lib.byteCells acc) (bs s) w h (by rw [Lib.byteCells_length, bs_size]; exact hl) hB).mono ?_
  rintro e w' ⟨rfl, h1, h2, h3⟩
  refine ⟨by rw [bs_size], ?_, h2, h3⟩
  have e1 : Lib.byteCells (acc ++ s) = Lib.byteCells acc ++ Lib.strCells (bs s) := by
    unfold Lib.byteCells Lib.strCells; rw [List.map_append, bs_list]
  unfold Bld
  rw [e1]
  exact .inr h1
theorem writeByte_c {b : Nat} {acc : List UInt8} (x : UInt8) (h : Bld b acc w) (hl : acc.length + 1 <= 140737488355328) (hB : b <= w.heap.size) :
    Calls Tryz.prog 46 #[.pointer (some ⟨b, 0, none⟩), .int .u8 ((x.toNat : Nat) : Int)] w fun e w' => e = .returned .nilIface /\ Bld b (acc ++ [x]) w' /\ Below b w w' /\ Lib.OthersKept 5 (some b) w w' := by
  refine (Any.Builder_WriteByte_k Tryz.lays167 Tryz.Builder_Extra_158 b b (Lib.byteCells acc) ((x.toNat : Nat) : Int) w h (by rw [Lib.byteCells_length]; exact hl) hB).mono ?_
  rintro e w' ⟨rfl, h1, h2, h3⟩
  refine ⟨rfl, ?_, h2, h3⟩
  have e1 : Lib.byteCells (acc ++ [x]) = Lib.byteCells acc ++ [.int .u8 ((x.toNat : Nat) : Int)] := by
    unfold Lib.byteCells; rw [List.map_append]; rfl
  unfold Bld
  rw [e1]
  exact .inr h1
theorem builderString_c {b : Nat} {acc : List UInt8} (h : Bld b acc w) (hB : b <= w.heap.size) : Calls Tryz.prog 49 #[.pointer (some ⟨b, 0, none⟩)] w fun e w' => e = .returned (.string (bs acc)) /\ Below b w w' := by
  refine (Any.Builder_String_any_k Tryz.lays169 Tryz.Builder_Extra_158 b b acc w h hB).mono ?_
  rintro e w' ⟨rfl, _, h2, _⟩
  exact ⟨rfl, h2⟩
theorem Pu.low {b : Nat} (h : Pu w0 w) (hb : w0.heap.size <= b) (k : Below b w w') : Pu w0 w' := Below.trans h (k.mono hb)
def texts (l : List Tok) : Prop := ∀ t ∈ l, t.text.size <= 140737488355328
theorem joinS_drop {g : Bool} {l : List Tok} {k : Nat} {t : Tok} (h : l[k]? = some t) : joinS g (l.drop k) = if t.kind = 5 then 10 :: joinS false (l.drop (k + 1)) else (if g then [32] else []) ++ writS t ++ joinS true (l.drop (k + 1)) := by
  rw [drop_at h]; rfl
theorem joined_c {s : SV} {l : List Tok} (hs : RdSl w0 s l) (ht : texts l) (hz : sizeT l <= 140737488355328) : Calls Tryz.prog 28 #[.slice s.a s.len s.cap] w0 fun e w' => e = .returned (.string (bs (joinS false l))) /\ Pu w0 w' := by
  have hsl := hs.len
  have hlim := hs.lim
  have hjl := joinS_len false l
  refine calls_by (F28_calls _ w0) fun R hR => alB fun w1 hp1 hb1 => ?_
  obtain ⟨b, hb⟩ : ∃ b, b = w0.heap.size := ⟨_, rfl⟩
  rw [← hb] at hb1 ⊢
  refine loopUp l.length (fun k t w' => ∃ acc, t.2 = (k : Int) /\ Pu w0 w' /\ Bld b acc w' /\ b < w'.heap.size /\ acc ++ joinS t.1 (l.drop k) = joinS false l) ⟨[], rfl, hp1, Bld.new hb1, blk_lt hb1, rfl⟩ ?_
  rintro k J ⟨g, n⟩ w2 hk ⟨acc, rfl, hp2, hB, hlt, hacc⟩ hJ
  dsimp only at hacc ⊢
  refine Br.of (fun q => ?_) (fun q => ?_)
  · have q := dtrue q
    have hk2 : k < l.length := by omega
    obtain ⟨t, htk⟩ := at_k hk2
    have htt := ht t (List.mem_of_getElem? htk)
    obtain ⟨a, ha, h1, h2, _, c0, c1, c2⟩ := RdSl.tok (hs.pu hp2) htk
    rw [joinS_drop htk] at hacc
    refine ⟨a, ha, h1, h2, _, c0, _, c1, _, c2, alB fun w3 hp3 hb3 => ?_⟩
    refine stA_fill hb3 s49.symm rfl rfl fun w4 hb4 hf4 _ => ?_
    have hb4 : TokB w4 w2.heap.size t := hb4
    have hP24 : Pu w2 w4 := Pu.andNew hp3 hf4 (fun i hi => by rw [show i = _ from hi]; exact Nat.le_refl _)
    have hB4 := hB.pu hP24
    have hP4 := hp2.trans hP24
    have hz4 := hP24.size
    rw [wrap_in (by omega) (by omega)]
    refine ⟨_, cl0 hb4, Br.of (fun q5 => ?_) (fun q5 => ?_)⟩
    · have q5 := btrue q5
      rw [if_pos q5] at hacc
      have hlen := congrArg List.length hacc
      rw [List.length_append, List.length_cons] at hlen
      refine (writeByte_c 10 hB4 (by omega) (by omega)).mono ?_
      rintro e w5 ⟨rfl, hB5, hl5, _⟩
      exact ⟨_, rfl, hJ _ _ hk2 ⟨acc ++ [10], by dsimp only; omega, Pu.low hP4 (by omega) hl5, hB5, by have := hl5.size; omega, by rw [← hacc, List.append_assoc]; rfl⟩⟩
    · have q5 := bfalse q5
      rw [if_neg q5] at hacc
      have hlen := congrArg List.length hacc
      rw [List.length_append, List.length_append, List.length_append] at hlen
      refine Br.of (fun qg => ?_) (fun qg => ?_)
      · subst qg
        have hlen : acc.length + (1 + (writS t).length + (joinS true (l.drop (k + 1))).length) = (joinS false l).length := hlen
        refine (writeByte_c 32 hB4 (by omega) (by omega)).mono ?_
        rintro e w5 ⟨rfl, hB5, hl5, ho5⟩
        have hP5 := Pu.low hP4 (by omega) hl5
        have hz5 := hl5.size
        have hb5 : TokB w5 w2.heap.size t := ho5 _ _ hb4 (by simp; omega) (fun c fz e => by cases e)
        refine ⟨_, rfl, _, cl hb5 0, _, cl hb5 1, _, cl hb5 2, (written_c t htt w5).mono ?_⟩
        rintro e w6 ⟨rfl, hp6⟩
        have hz6 := hp6.size
        refine ⟨_, rfl, (writeString_c (writS t) (hB5.pu hp6) (by simp; omega) (by omega)).mono ?_⟩
        rintro e w7 ⟨rfl, hB7, hl7, _⟩
        refine ⟨_, _, rfl, hJ _ _ hk2 ⟨_, by dsimp only; omega, Pu.low (hP5.trans hp6) (by omega) hl7, hB7, by have := hl7.size; omega, ?_⟩⟩
        rw [← hacc]; simp
      · subst qg
        have hlen : acc.length + (0 + (writS t).length + (joinS true (l.drop (k + 1))).length) = (joinS false l).length := hlen
        refine ⟨_, cl hb4 0, _, cl hb4 1, _, cl hb4 2, (written_c t htt w4).mono ?_⟩
        rintro e w6 ⟨rfl, hp6⟩
        have hz6 := hp6.size
        refine ⟨_, rfl, (writeString_c (writS t) (hB4.pu hp6) (by omega) (by omega)).mono ?_⟩
        rintro e w7 ⟨rfl, hB7, hl7, _⟩
        refine ⟨_, _, rfl, hJ _ _ hk2 ⟨_, by dsimp only; omega, Pu.low (hP4.trans hp6) (by omega) hl7, hB7, by have := hl7.size; omega, ?_⟩⟩
        rw [← hacc]; simp
  · have q := dfalse q
    rw [List.drop_eq_nil_of_le (by omega)] at hacc
    have hacc : acc = joinS false l := by rw [← hacc]; simp [joinS]
    refine (builderString_c hB (by omega)).mono ?_
    rintro e w3 ⟨rfl, hl3⟩
    exact ⟨_, rfl, hR _ _ ⟨by rw [hacc], Pu.low hp2 (by omega) hl3⟩⟩
def midB (l : List Tok) (k : Nat) : Bool := match k with
  | 0 => false
  | k + 1 => match l[k]? with
    | some t => decide (t.kind ≠ 5)
    | none => false
theorem midB_succ {l : List Tok} {k : Nat} {t : Tok} (h : l[k]? = some t) : midB l (k + 1) = decide (t.kind ≠ 5) := by
  show (match l[k]? with | some t => decide (t.kind ≠ 5) | none => false) = _
  rw [h]
theorem rjoined_c {s : SV} {l : List Tok} (hs : RdSl w0 s l) (ht : texts l) (hz : sizeT l <= 140737488355328) : Calls Tryz.prog 30 #[.slice s.a s.len s.cap] w0 fun e w' => e = .returned (.string (bs (joinS false l))) /\ Pu w0 w' := by
  have hsl := hs.len
  have hlim := hs.lim
  have hjl := joinS_len false l
  refine calls_by (F30_calls _ w0) fun R hR => ?_
  have e0 : (⟨#[]⟩ : ByteArray) = bs [] := rfl
  refine loopUp l.length (fun k t w' => ∃ acc, t = (bs acc, (k : Int)) /\ Pu w0 w' /\ acc ++ joinS (midB l k) (l.drop k) = joinS false l) ⟨[], rfl, Pu.refl _, rfl⟩ ?_
  rintro k J t w2 hk ⟨acc, rfl, hp2, hacc⟩ hJ
  dsimp only
  refine Br.of (fun q => ?_) (fun q => ?_)
  · have q := dtrue q
    have hk2 : k < l.length := by omega
    obtain ⟨t, htk⟩ := at_k hk2
    have htt := ht t (List.mem_of_getElem? htk)
    obtain ⟨a, ha, h1, h2, ck, c0, c1, c2⟩ := RdSl.tok (hs.pu hp2) htk
    rw [joinS_drop htk] at hacc
    have hmid : midB l (k + 1) = decide (t.kind ≠ 5) := midB_succ htk
    -- a token is put behind what there is
    have fin : ∀ {g : Bool} {w3 : World}, (t.kind ≠ 5 -> g = midB l k) -> (t.kind = 5 -> g = false) -> Pu w0 w3 -> Calls Tryz.prog 52 #[.agg (tokV t).toArray] w3 fun e w5 => ∃ s37 : ByteArray, e = .returned (.string s37) /\ ((((bs (acc ++ if g then [32] else [])).size + s37.size : Nat) : Int) <= 9223372036854775807 /\ F30_2 R J s (bs (acc ++ if g then [32] else []) ++ s37) (k : Int) [] w5) := fun {g w3} hg hg5 hp3 => by
      refine (rwritten_c t htt w3).mono ?_
      rintro e w4 ⟨rfl, hp4⟩
      have e1 : (acc ++ if g then [32] else []) ++ (if t.kind = 5 then [10] else writS t) ++ joinS (midB l (k + 1)) (l.drop (k + 1)) = joinS false l := by
        rw [← hacc, hmid]
        by_cases h5 : t.kind = 5
        · rw [if_pos h5, if_pos h5, hg5 h5, decide_eq_false (by simp [h5])]; simp
        · rw [if_neg h5, if_neg h5, hg h5, decide_eq_true h5]; simp
      have hlen := congrArg List.length e1
      rw [List.length_append, List.length_append] at hlen
      refine ⟨_, rfl, by rw [cat_bs]; omega, ?_⟩
      rw [bs_append]
      unfold F30_2
      rw [wrap_in (by omega) (by omega)]
      exact hJ _ _ hk2 ⟨_, by rw [show (k : Int) + 1 = ((k + 1 : Nat) : Int) by omega], hp3.trans hp4, e1⟩
    have plain : (t.kind ≠ 5 -> midB l k = false) -> ∃ a10 : Addr, s.a = some a10 /\ (0 : Int) <= (k : Int) /\ (k : Int) < ((s.len : Nat) : Int) /\
        ∃ n36_0 : Int, w2.cell? ((a10.add (((k : Int)).toNat * 3)).add 0) = some (.int .i64 n36_0) /\ ∃ n36_1 : Int, w2.cell? ((a10.add (((k : Int)).toNat * 3)).add 1) = some (.int .i64 n36_1) /\ ∃ s36_2 : ByteArray, w2.cell? ((a10.add (((k : Int)).toNat * 3)).add 2) = some (.string s36_2) /\
        Calls Tryz.prog 52 #[.agg #[.int .i64 n36_0, .int .i64 n36_1, .string s36_2]] w2 fun e w11 => ∃ s37 : ByteArray, e = .returned (.string s37) /\ (((bs acc).size + s37.size : Nat) : Int) <= 9223372036854775807 /\ F30_2 R J s (bs acc ++ s37) (k : Int) [] w11 := fun hm => by
      refine ⟨a, ha, h1, h2, _, c0, _, c1, _, c2, ?_⟩
      have := fin (g := false) (fun h => (hm h).symm) (fun _ => rfl) hp2
      simp only [Bool.false_eq_true, if_false, List.append_nil] at this
      exact this
    refine Br.of (fun q1 => ⟨a, ha, h1, h2, _, ck, Br.of (fun q2 => ?_) (fun q2 => plain fun h => absurd (bnfalse q2) h)⟩) (fun q1 => plain fun _ => ?_)
    · have q1 := dtrue q1
      have q2 : t.kind ≠ 5 := bntrue q2
      obtain ⟨j, rfl⟩ : ∃ j, k = j + 1 := ⟨k - 1, by omega⟩
      obtain ⟨t', htj⟩ := at_k (l := l) (k := j) (by omega)
      have hm : midB l (j + 1) = decide (t'.kind ≠ 5) := midB_succ htj
      obtain ⟨a', ha', g1, g2, gk, _, _, _⟩ := RdSl.tok (hs.pu hp2) htj
      rw [wrap_in (n := ((j + 1 : Nat) : Int) - 1) (by omega) (by omega), show ((j + 1 : Nat) : Int) - 1 = (j : Int) by omega]
      refine ⟨a', ha', g1, g2, _, gk, Br.of (fun q3 => ?_) (fun q3 => plain fun _ => by rw [hm]; exact decide_eq_false (by have := bnfalse q3; simp [this]))⟩
      have q3 : t'.kind ≠ 5 := bntrue q3
      have e32 : (⟨#[32]⟩ : ByteArray) = bs [32] := rfl
      rw [e32, bs_append]
      have hlen := congrArg List.length hacc
      rw [List.length_append] at hlen
      refine ⟨by rw [cat_bs, List.length_singleton]; omega, a, ha, h1, h2, _, c0, _, c1, _, c2, ?_⟩
      have := fin (g := true) (fun _ => by rw [hm]; exact (decide_eq_true q3).symm) (fun h => absurd h q2) hp2
      simp only [if_true] at this
      exact this
    · have q1 := dfalse q1
      obtain rfl : k = 0 := by omega
      rfl
  · have q := dfalse q
    rw [List.drop_eq_nil_of_le (by omega)] at hacc
    have hacc : acc = joinS false l := by rw [← hacc]; simp [joinS]
    exact hR _ _ ⟨by rw [hacc], hp2⟩
def joinF (l : List Tok) : List UInt8 × Int := if (lexF (joinS false l)).2.2 ≠ 0 then ([], (lexF (joinS false l)).2.2) else if sameS (lexF (joinS false l)).1 l = false then ([], 1) else (joinS false l, 0)
theorem join_c (hL : Laid w) {s : SV} {l : List Tok} (hs : RdSl w s l) (ht : texts l) (hz : sizeT l <= 140737488355328) : Calls Tryz.prog 13 #[.slice s.a s.len s.cap] w fun e w' => e = .returned (.tuple #[.string (bs (joinF l).1), .int .i64 (joinF l).2]) /\ Pu w w' := by
  have hjl := joinS_len false l
  refine calls_by (F13_calls _ w) fun R hR => (joined_c hs ht hz).mono ?_
  rintro e w1 ⟨rfl, hp1⟩
  refine ⟨_, rfl, (lex_c (hL.pu hp1) (joinS false l) (by omega)).mono ?_⟩
  rintro e w2 ⟨hp2, t, rfl, hrd⟩
  have hp := hp1.trans hp2
  refine ⟨t, _, _, rfl, Br.of (fun q => hR _ _ ⟨?_, hp⟩) (fun q => (same_c hrd (hs.pu hp)).mono ?_)⟩
  · unfold joinF; rw [if_pos (bntrue q)]
  · rintro e w3 ⟨rfl, hp3⟩
    have q := bnfalse q
    refine ⟨_, rfl, Br.of (fun q2 => hR _ _ ⟨?_, hp.trans hp3⟩) (fun q2 => hR _ _ ⟨?_, hp.trans hp3⟩)⟩
    · unfold joinF; rw [if_neg (by simp [q]), if_pos (by simpa using q2)]
    · unfold joinF; have q2 : sameS (lexF (joinS false l)).1 l = true := by simpa using q2
      rw [if_neg (by simp [q]), if_neg (by simp [q2])]
end Go.Proofs.YtlogipcgejfnnaaGreatDoor

/- Lex: how long the texts of tokens are, and that the last token ends a line; a part of a list of tokens. No condition. -/
set_option maxRecDepth 100000
set_option linter.unusedVariables false
set_option linter.unusedSimpArgs false
namespace Go.Proofs.YtlogipcgejfnnaaGreatDoor
open Go.Sh Go.Sh.Lx Go.RowKit
variable {w0 w w' : World}
def TokTx (n : Nat) : Stp -> Prop
  | .tok k t m => t.length <= n + 8
  | _ => True
theorem datesD_len (l : List UInt8) : (datesD l).length <= 8 := by
  unfold datesD
  simp only [List.length_append, List.length_take, List.length_drop]
  omega
theorem tokS_tx {x : UInt8} {r : List UInt8} : TokTx r.length (tokS x r) := by
  unfold tokS
  split
  · have := tw_le (fun c => letB c || digB c) (x :: r)
    rw [List.length_cons] at this
    dsimp only
    split
    · trivial
    · show (List.map capU _).length <= _
      rw [List.length_map]; omega
  · split
    · have := tw_le digB (x :: r)
      rw [List.length_cons] at this
      dsimp only
      split
      · trivial
      · show (List.takeWhile digB (x :: r)).length <= _; omega
    · split
      · unfold quoteS
        have h1 := tw_le (fun b => !nlB b && !decide (b = x)) r
        dsimp only
        split
        · split
          · trivial
          · show (List.takeWhile (fun b => !nlB b && !decide (b = x)) r).length <= _; omega
        · trivial
      · split
        · rename_i d n hd
          have hn : d.length <= 8 := by
            unfold dateL at hd
            split at hd
            · have : d = [] := by simp at hd; exact hd.1
              rw [this]; simp
            · split at hd
              · cases hd
              · split at hd
                · have : d = datesD (x :: r) := by simp at hd; exact hd.1.symm
                  rw [this]; exact datesD_len _
                · cases hd
          show d.length <= _; omega
        · split
          · rename_i w hw
            unfold signS at hw
            have h9 := List.find?_some hw
            have h8 := congrArg List.length (of_decide_eq_true h9)
            rw [List.length_map, List.length_take, List.length_cons] at h8
            show w.length <= _; omega
          · trivial
theorem stepS_tx {x : UInt8} {r : List UInt8} {line : Bool} {k : Int} {t : List UInt8} {m : Nat} (h : stepS x r line = .tok k t m) : t.length <= r.length + 8 := by
  unfold stepS at h
  split at h
  · cases h
  · split at h
    · cases h
    · split at h
      · split at h <;> cases h
      · split at h
        · split at h <;> cases h
        · have := tokS_tx (x := x) (r := r)
          rw [h] at this
          exact this
def lastOk (l : List Tok) : Prop := ∀ t, l.getLast? = some t -> t.kind = 5
theorem lastOk_cons {t : Tok} {l : List Tok} (h : lastOk l) (hn : l = [] -> t.kind = 5) : lastOk (t :: l) := fun u hu => by
  cases l with
  | nil => simp at hu; subst hu; exact hn rfl
  | cons a r => rw [List.getLast?_cons_cons] at hu; exact h u hu
theorem lexS_texts : ∀ (n : Nat) (r : List UInt8) (p : Nat) (line : Bool), r.length <= n -> (∀ t ∈ (lexS r p line).1, t.text.size <= r.length + 8) /\ ((lexS r p line).2 = none -> lastOk (lexS r p line).1 /\ ((lexS r p line).1 = [] -> line = false)) := by
  have e5 : ∀ p, (endT p).kind = 5 := fun _ => rfl
  have z5 : ∀ p, (endT p).text.size = 0 := fun _ => rfl
  have ends : ∀ (p : Nat) (line : Bool), (∀ t ∈ (if line then [endT p] else []), t.text.size <= 0) /\ (lastOk (if line then [endT p] else []) /\ ((if line then [endT p] else []) = [] -> line = false)) := by
    intro p line
    cases line with
    | false => exact ⟨fun t ht => by simp at ht, fun t ht => by simp at ht, fun _ => rfl⟩
    | true => exact ⟨fun t ht => by simp at ht; subst ht; rw [z5]; exact Nat.le_refl _, fun t ht => by simp at ht; subst ht; rfl, fun h => by simp at h⟩
  intro n
  induction n with
  | zero =>
    intro r p line h
    obtain rfl : r = [] := List.eq_nil_of_length_eq_zero (by omega)
    rw [lexS_nil]
    exact ⟨fun t ht => by have := (ends p line).1 t ht; omega, fun _ => (ends p line).2⟩
  | succ n ih =>
    intro r p line h
    cases r with
    | nil =>
      rw [lexS_nil]
      exact ⟨fun t ht => by have := (ends p line).1 t ht; omega, fun _ => (ends p line).2⟩
    | cons x r =>
      have hr : r.length <= n := by simpa using h
      have hd : ∀ m, (r.drop m).length <= r.length := fun m => by rw [List.length_drop]; omega
      cases hs : stepS x r line with
      | go m =>
        rw [lexS_go hs]
        obtain ⟨h1, h2⟩ := ih (r.drop m) (p + 1 + m) line (Nat.le_trans (hd m) hr)
        exact ⟨fun t ht => by have := h1 t ht; have := hd m; rw [List.length_cons]; omega, h2⟩
      | eol =>
        rw [lexS_eol hs]
        obtain ⟨h1, h2⟩ := ih r (p + 1) false hr
        refine ⟨fun t ht => ?_, fun hn => ?_⟩
        · rcases List.mem_append.1 ht with h | h
          · have := (ends p line).1 t h; omega
          · have := h1 t h; rw [List.length_cons]; omega
        · obtain ⟨h3, h4⟩ := h2 hn
          cases line with
          | false => exact ⟨by simpa using h3, fun _ => rfl⟩
          | true => exact ⟨by
              show lastOk (endT p :: (lexS r (p + 1) false).1)
              exact lastOk_cons h3 fun _ => rfl, fun h => by simp at h⟩
      | tok k t m =>
        rw [lexS_tok hs]
        obtain ⟨h1, h2⟩ := ih (r.drop m) (p + 1 + m) true (Nat.le_trans (hd m) hr)
        have htx := stepS_tx hs
        refine ⟨fun u hu => ?_, fun hn => ?_⟩
        · rcases List.mem_cons.1 hu with rfl | h
          · show (bs t).size <= _; rw [bs_size, List.length_cons]; omega
          · have := h1 u h; have := hd m; rw [List.length_cons]; omega
        · obtain ⟨h3, h4⟩ := h2 hn
          exact ⟨lastOk_cons h3 fun h => (by cases h4 h), fun h => (by cases h)⟩
      | bad i =>
        rw [lexS_bad hs]
        exact ⟨fun t ht => (by cases ht), fun h => (by cases h)⟩
theorem lexF_ok {d : List UInt8} (h : (lexF d).2.2 = 0) : (lexF d).1 = (lexS d 0 false).1 /\ (lexS d 0 false).2 = none /\ (lexF d).1.length <= 1200 /\ d.length <= 4000 := by
  unfold lexF at h ⊢
  split
  · rename_i h1; rw [if_pos h1] at h; cases h
  · rename_i h1
    rw [if_neg h1] at h
    cases hs : (lexS d 0 false).2 with
    | some i => rw [hs] at h; cases h
    | none =>
      rw [hs] at h
      dsimp only at h ⊢
      split
      · rename_i h2; rw [if_pos h2] at h; cases h
      · exact ⟨rfl, rfl, (by show (lexS d 0 false).1.length <= 1200; omega), (by omega)⟩
theorem lexF_texts {d : List UInt8} (h : (lexF d).2.2 = 0) : (∀ t ∈ (lexF d).1, t.text.size <= 5000) /\ lastOk (lexF d).1 /\ (lexF d).1.length <= 1200 := by
  obtain ⟨h1, h2, h3, h4⟩ := lexF_ok h
  obtain ⟨g1, g2⟩ := lexS_texts d.length d 0 false (Nat.le_refl _)
  rw [h1] at h3 ⊢
  exact ⟨fun t ht => by have := g1 t ht; omega, (g2 h2).1, h3⟩
theorem sizeT_le : ∀ {l : List Tok} {m : Nat}, (∀ t ∈ l, t.text.size <= m) -> sizeT l <= l.length * (m + 6)
  | [], m, _ => by simp [sizeT]
  | t :: r, m, h => by
    have ih := sizeT_le (l := r) (m := m) fun u hu => h u (List.mem_cons_of_mem _ hu)
    have h0 := h t (List.mem_cons_self ..)
    unfold sizeT at ih ⊢
    rw [List.map_cons, List.sum_cons, List.length_cons, Nat.succ_mul]
    omega
theorem add_add (a : Addr) (m n : Nat) : (a.add m).add n = a.add (m + n) := by
  unfold Addr.add
  by_cases hm : m = 0
  · subst hm; simp
  · by_cases hn : n = 0
    · subst hn; simp
    · rw [if_neg hm, if_neg hn, if_neg (by omega)]; simp [Nat.add_assoc]
theorem rd_sub {α : Type} [Enc α] {s : SV} {l : List α} (h : RdSl w s l) {i j n : Nat} (hn : Enc.sz α = n) (hij : i <= j) (hj : j <= l.length) : RdSl w ⟨if s.cap = i then s.a else s.a.map (fun x => x.add (i * n)), j - i, s.cap - i⟩ ((l.take j).drop i) := by
  have h1 := h.len
  have h2 := h.cap
  have h3 := h.lim
  subst hn
  refine ⟨by rw [List.length_drop, List.length_take]; show j - i = _; omega, by show j - i <= s.cap - i; omega, by show j - i <= _; omega, fun k x hx => ?_⟩
  rw [List.getElem?_drop, List.getElem?_take] at hx
  split at hx
  case isFalse => cases hx
  rename_i hk
  obtain ⟨a, ha, vs, hv, hc⟩ := h.get (i + k) x hx
  refine ⟨a.add (i * Enc.sz α), ?_, vs, hv, ?_⟩
  · show (if s.cap = i then s.a else s.a.map (fun x => x.add (i * Enc.sz α))) = _
    rw [if_neg (by omega), ha]; rfl
  · rw [add_add, ← Nat.add_mul]; exact hc
end Go.Proofs.YtlogipcgejfnnaaGreatDoor

/- Lex: the lines of a source, as the program tells. The signs: the library's tables of letters and of bytes. -/
set_option maxRecDepth 100000
set_option linter.unusedVariables false
set_option linter.unusedSimpArgs false
namespace Go.Proofs.YtlogipcgejfnnaaGreatDoor
open Go.Sh Go.Sh.Lx Go.RowKit
variable {w0 w w' : World}
def rowsS (acc : List Tok) : List Tok -> List (List Tok)
  | [] => []
  | t :: r => if t.kind = 5 then acc :: rowsS [] r else rowsS (acc ++ [t]) r
theorem rowsS_at : ∀ {e : Nat} {l : List Tok} {t : Tok} (acc : List Tok), l[e]? = some t -> t.kind = 5 -> (∀ (j : Nat) (u : Tok), j < e -> l[j]? = some u -> u.kind ≠ 5) -> rowsS acc l = (acc ++ l.take e) :: rowsS [] (l.drop (e + 1))
  | _, [], t, acc, h, _, _ => by simp at h
  | 0, x :: r, t, acc, h, h5, _ => by
    have h : x = t := by simpa using h
    subst h
    show (if x.kind = 5 then acc :: rowsS [] r else rowsS (acc ++ [x]) r) = _
    rw [if_pos h5]; simp
  | e + 1, x :: r, t, acc, h, h5, hb => by
    have hx : x.kind ≠ 5 := hb 0 x (by omega) rfl
    have ih := rowsS_at (e := e) (l := r) (t := t) (acc ++ [x]) (by simpa using h) h5 fun j u hj hu => hb (j + 1) u (by omega) (by simpa using hu)
    show (if x.kind = 5 then acc :: rowsS [] r else rowsS (acc ++ [x]) r) = _
    rw [if_neg hx, ih]; simp
theorem first_end : ∀ {l : List Tok}, lastOk l -> l ≠ [] -> ∃ e t, l[e]? = some t /\ t.kind = 5 /\ ∀ (j : Nat) (u : Tok), j < e -> l[j]? = some u -> u.kind ≠ 5
  | [], _, h => absurd rfl h
  | x :: r, hl, _ => by
    by_cases hx : x.kind = 5
    · exact ⟨0, x, rfl, hx, fun j u hj => by omega⟩
    · have hr : r ≠ [] := fun h => hx (by subst h; exact hl x rfl)
      obtain ⟨e, t, h1, h2, h3⟩ := first_end (l := r) (fun u hu => hl u (by cases r with
        | nil => simp at hu
        | cons a b => rw [List.getLast?_cons_cons]; exact hu)) hr
      refine ⟨e + 1, t, by simpa using h1, h2, fun j u hj hu => ?_⟩
      cases j with
      | zero => have hu : x = u := by simpa using hu
                rw [← hu]; exact hx
      | succ j => exact h3 j u (by omega) (by simpa using hu)
theorem lastOk_drop {l : List Tok} (h : lastOk l) (k : Nat) : lastOk (l.drop k) := fun t ht => h t (by
  rw [List.getLast?_drop] at ht
  split at ht
  · cases ht
  · exact ht)
def strV (l : List ByteArray) : List Value := l.map Value.string
def linesF (d : List UInt8) : List (List UInt8) × Int := if (lexF d).2.2 ≠ 0 then ([], (lexF d).2.2) else ((rowsS [] (lexF d).1).map (joinS false), 0)
theorem isEnd_c (x : Tok) (w : World) : Calls Tryz.prog 32 #[.agg (tokV x).toArray] w fun e w' => e = .returned (.bool (decide (x.kind = 5))) /\ Pu w w' := by
  refine calls_by (F32_calls _ _ _ w) fun R hR => alB fun w1 hp1 hb1 => ⟨_, cl0 hb1, hR _ _ ⟨?_, hp1⟩⟩
  rw [beq_dec]
theorem endIx_c {s : SV} {l : List Tok} (hs : RdSl w s l) {e : Nat} {t : Tok} (he : l[e]? = some t) (h5 : t.kind = 5) (hb : ∀ (j : Nat) (u : Tok), j < e -> l[j]? = some u -> u.kind ≠ 5) :
    Calls Tryz.prog 31 #[.slice s.a s.len s.cap, .func (.func 32) #[] #[]] w fun x w' => x = .returned (.int .i64 (e : Int)) /\ Pu w w' := by
  have hsl := hs.len
  have hlim := hs.lim
  have hel := (List.getElem?_eq_some_iff.1 he).1
  refine calls_by (F31_calls _ _ w) fun R hR => ?_
  refine loopUp l.length (fun k n w' => n = (k : Int) /\ Pu w w' /\ k <= e) ⟨rfl, Pu.refl _, Nat.zero_le _⟩ ?_
  rintro k J n w1 hk ⟨rfl, hp1, hke⟩ hJ
  obtain ⟨u, hu⟩ := at_k (l := l) (k := k) (by omega)
  obtain ⟨a, ha, h1, h2, _, c0, c1, c2⟩ := RdSl.tok (hs.pu hp1) hu
  refine Br.t (decide_eq_true (by omega)) ⟨a, ha, h1, h2, _, c0, _, c1, _, c2, ?_⟩
  rw [fnE_mk]
  refine ⟨by kernel_rfl, (isEnd_c u w1).mono ?_⟩
  rintro x w2 ⟨rfl, hp2⟩
  refine ⟨_, rfl, Br.of (fun q => ?_) (fun q => ?_)⟩
  · have q := dtrue q
    have : k = e := by
      by_cases h : k < e
      · exact absurd q (hb k u h hu)
      · omega
    subst this
    exact hR _ _ ⟨rfl, hp1.trans hp2⟩
  · have q := dfalse q
    rw [wrap_in (by omega) (by omega)]
    refine hJ _ _ (by omega) ⟨rfl, hp1.trans hp2, ?_⟩
    by_cases h : k = e
    · subst h; rw [he] at hu; cases hu; exact absurd h5 q
    · omega
theorem u32_ : Tryz.prog.underlying 32 = some (.slice 9) := by kernel_rfl
theorem info9 : (Tryz.prog.info? 9).map (fun i => (i.zero, i.size, i.bytes)) = some (some (.string ⟨#[]⟩), 1, 16) := by kernel_rfl
theorem lines_c (hL : Laid w) (d : List UInt8) (hd : d.length <= 20000) : Calls Tryz.prog 15 #[.string (bs d)] w fun e w' => ∃ s : SV, e = .returned (.tuple #[.slice s.a s.len s.cap, .int .i64 (linesF d).2]) /\ RowAt w' 9 1 s (strV ((linesF d).1.map bs)) /\ Pu w w' := by
  refine calls_by (F15_calls _ w) fun R hR => (lex_c hL d (by omega)).mono ?_
  rintro e w1 ⟨hp1, s, rfl, hrd⟩
  refine ⟨s, _, _, rfl, Br.of (fun q => ?_) (fun q => ?_)⟩
  · refine hR _ _ ⟨⟨none, 0, 0⟩, ?_, ?_, hp1⟩
    · unfold linesF; rw [if_pos (bntrue q)]
    · unfold linesF; rw [if_pos (bntrue q)]; exact RowAt.nil _ _ _
  have q := bnfalse q
  obtain ⟨htx, hlast, hlen⟩ := lexF_texts q
  have e1 : linesF d = ((rowsS [] (lexF d).1).map (joinS false), 0) := by unfold linesF; rw [if_neg (by simp [q])]
  generalize (lexF d).1 = T at hrd htx hlast hlen e1
  have h1 := hp1.size
  refine loopDown T.length (fun n t w' => ∃ k l out, n = l.length /\ l = T.drop k /\ RdSl w1 t.1 l /\ RowAt w' 9 1 t.2 (strV (out.map bs)) /\ out ++ (rowsS [] l).map (joinS false) = (rowsS [] T).map (joinS false) /\ out.length + l.length <= T.length /\ (∀ i ∈ blkOf t.2, w1.heap.size <= i) /\ Pu w1 w')
    ⟨0, T, [], rfl, rfl, hrd, RowAt.nil _ _ _, rfl, by simp, fun i hi => by simp [blkOf] at hi, Pu.refl _⟩ ?_
  rintro n J ⟨s4, s7⟩ w2 ⟨k, l, out, rfl, hl, hr4, hr7, hsp, hn, hb7, hp2⟩ hJ
  dsimp only at hr4 hr7 hb7 ⊢
  have hl4 := hr4.len
  have hlm4 := hr4.lim
  have hc4 := hr4.cap
  refine Br.of (fun q2 => ?_) (fun q2 => ?_)
  · have q2 := dtrue q2
    have hne : l ≠ [] := fun h => by rw [h] at hl4; simp at hl4; omega
    obtain ⟨e, t, he, h5, hbe⟩ := first_end (hl ▸ lastOk_drop hlast k) hne
    have hel := (List.getElem?_eq_some_iff.1 he).1
    refine (endIx_c (hr4.pu hp2) he h5 hbe).mono ?_
    rintro x w3 ⟨rfl, hp3⟩
    refine ⟨_, rfl, by omega, by omega, by omega, ?_⟩
    have hP3 := hp2.trans hp3
    have hsub := rd_sub (hr4.pu hP3) (i := 0) (j := e) (n := 3) rfl (Nat.zero_le _) (by omega)
    have htk : (l.take e).drop 0 = l.take e := rfl
    rw [htk] at hsub
    have hmem : ∀ u ∈ l.take e, u.text.size <= 5000 := fun u hu => htx u (List.mem_of_mem_drop (hl ▸ List.mem_of_mem_take hu))
    have hsz := sizeT_le hmem
    have hle : (l.take e).length <= 1200 := by rw [List.length_take]; omega
    have hszb : sizeT (l.take e) <= 140737488355328 := Nat.le_trans hsz (Nat.le_trans (Nat.mul_le_mul_right _ hle) (by omega))
    have hj := joined_c hsub (fun u hu => by have := hmem u hu; omega) hszb
    rw [toNat_i]
    refine hj.mono ?_
    rintro x w4 ⟨rfl, hp4⟩
    refine ⟨_, rfl, alB fun w5 hp5 hb5 => ?_⟩
    have hr7' := ((hr7.pu hp3).pu hp4).pu hp5
    have hl7 : s7.len = out.length := by have := hr7.1; simpa [strV] using this.symm
    obtain ⟨s9, w6, hra, hr9, hf9, hb9, hl9⟩ := row_push (P := Tryz.prog) (t := 32) (ty := 32) u32_ info9 rfl hr7' (a := ⟨w4.heap.size, 0, none⟩) (u := .string (bs (joinS false (l.take e)))) (by rw [cell_blk hb5]; rfl) rfl (by omega)
    have hP5 := (hP3.trans hp4).trans hp5
    have hw : IntKind.i64.wrap ((e : Int) + 1) = ((e + 1 : Nat) : Int) := by rw [wrap_in (by omega) (by omega)]; omega
    rw [hw, toNat_i]
    refine ⟨s9, w6, hra, by omega, by omega, by omega, ?_⟩
    have hsub2 := rd_sub hr4 (i := e + 1) (j := l.length) (n := 3) rfl (by omega) (Nat.le_refl _)
    rw [List.take_length] at hsub2
    rw [hl4]
    refine hJ (l.drop (e + 1)).length _ _ (by rw [List.length_drop]; omega) ⟨k + (e + 1), l.drop (e + 1), out ++ [joinS false (l.take e)], rfl, by rw [hl, List.drop_drop], hsub2, ?_, ?_, ?_, fun i hi => ?_, Pu.andNew hP5 hf9 hb7⟩
    · have : strV ((out ++ [joinS false (l.take e)]).map bs) = strV (out.map bs) ++ [.string (bs (joinS false (l.take e)))] := by simp [strV]
      rw [this]; exact hr9
    · rw [← hsp, rowsS_at [] he h5 hbe]; simp
    · rw [List.length_append, List.length_drop]; simp; omega
    · rcases hb9 i hi with h | h
      · exact hb7 i h
      · have := hP5.size; omega
  · have q2 := dfalse q2
    have hnil : l = [] := List.eq_nil_of_length_eq_zero (by omega)
    subst hnil
    have hsp : out = (rowsS [] T).map (joinS false) := by rw [← hsp]; simp [rowsS]
    refine hR _ _ ⟨s7, by rw [e1], by rw [e1, ← hsp]; exact hr7, hp1.trans hp2⟩
end Go.Proofs.YtlogipcgejfnnaaGreatDoor

/- Lex: the source that the statements look at first: its tokens, and the source of these. The signs: the library's tables of letters and of bytes. -/
set_option maxRecDepth 100000
set_option linter.unusedVariables false
set_option linter.unusedSimpArgs false
namespace Go.Proofs.YtlogipcgejfnnaaGreatDoor
open Go.Sh Go.Sh.Lx Go.RowKit
variable {w0 w w' : World}
def lexN : Nat -> List UInt8 -> Nat -> Bool -> Option LexOut
  | 0, _, _, _ => none
  | _ + 1, [], p, line => some (if line then [endT p] else [], none)
  | n + 1, b :: r, p, line => match stepS b r line with
    | .go m => lexN n (r.drop m) (p + 1 + m) line
    | .eol => (lexN n r (p + 1) false).map fun o => ((if line then [endT p] else []) ++ o.1, o.2)
    | .tok k t m => (lexN n (r.drop m) (p + 1 + m) true).map fun o => (⟨k, (p : Int), bs t⟩ :: o.1, o.2)
    | .bad i => some ([], some (p + i))
theorem lexN_ok : ∀ (n : Nat) (l : List UInt8) (p : Nat) (line : Bool) (o : LexOut), lexN n l p line = some o -> lexS l p line = o
  | 0, _, _, _, _, h => by cases h
  | n + 1, [], p, line, o, h => by rw [lexS_nil]; exact Option.some.inj h
  | n + 1, b :: r, p, line, o, h => by
    have h : (match stepS b r line with
      | .go m => lexN n (r.drop m) (p + 1 + m) line
      | .eol => (lexN n r (p + 1) false).map fun o => ((if line then [endT p] else []) ++ o.1, o.2)
      | .tok k t m => (lexN n (r.drop m) (p + 1 + m) true).map fun o => (⟨k, (p : Int), bs t⟩ :: o.1, o.2)
      | .bad i => some ([], some (p + i))) = some o := h
    cases hs : stepS b r line with
    | go m => rw [hs] at h; rw [lexS_go hs]; exact lexN_ok n _ _ _ _ h
    | eol =>
      rw [hs] at h
      obtain ⟨o', ho, rfl⟩ := Option.map_eq_some_iff.1 h
      rw [lexS_eol hs, lexN_ok n _ _ _ _ ho]
    | tok k t m =>
      rw [hs] at h
      obtain ⟨o', ho, rfl⟩ := Option.map_eq_some_iff.1 h
      rw [lexS_tok hs, lexN_ok n _ _ _ _ ho]
    | bad i => rw [hs] at h; rw [lexS_bad hs]; exact Option.some.inj h
def srcK : List UInt8 := [120, 32, 61, 32, 49, 32, 59, 32, 38, 38, 32, 97, 10, 43, 32, 50]
def srcJ : List UInt8 := [88, 32, 61, 32, 49, 32, 43, 32, 50, 10]
def toksK : List Tok := [⟨0, 0, bs [88]⟩, ⟨4, 2, bs [61]⟩, ⟨1, 4, bs [49]⟩, ⟨4, 13, bs [43]⟩, ⟨1, 15, bs [50]⟩, endT 16]
def toksJ : List Tok := [⟨0, 0, bs [88]⟩, ⟨4, 2, bs [61]⟩, ⟨1, 4, bs [49]⟩, ⟨4, 6, bs [43]⟩, ⟨1, 8, bs [50]⟩, endT 9]
theorem lexK : lexS srcK 0 false = (toksK, none) := lexN_ok 20 _ _ _ _ (by decide +kernel)
theorem lexJ : lexS srcJ 0 false = (toksJ, none) := lexN_ok 20 _ _ _ _ (by decide +kernel)
theorem lexF_of {d : List UInt8} {l : List Tok} (hd : d.length <= 4000) (h : lexS d 0 false = (l, none)) (hl : l.length <= 1200) : lexF d = (l, ((l.length : Nat) : Int), 0) := by
  unfold lexF
  rw [if_neg (by omega), h]
  dsimp only
  rw [if_neg (by omega)]
theorem lexF_K : lexF srcK = (toksK, 6, 0) := lexF_of (by decide) lexK (by decide)
theorem lexF_J : lexF srcJ = (toksJ, 6, 0) := lexF_of (by decide) lexJ (by decide)
theorem join_K : joinS false toksK = srcJ := by decide +kernel
theorem joinF_K : joinF toksK = (srcJ, 0) := by
  unfold joinF
  rw [join_K, lexF_J, if_neg (by decide), if_neg (by have : sameS toksJ toksK = true := by decide +kernel
                                                     simp [this])]
theorem textsK : texts toksK := by unfold texts; decide +kernel
theorem known_c (hL : Laid w) : Calls Tryz.prog 8 #[] w fun e w' => e = .returned (.bool true) /\ Pu w w' := by
  refine calls_by (F8_calls w) fun R hR => (lex_c hL srcK (by decide)).mono ?_
  rintro e w1 ⟨hp1, s, rfl, hrd⟩
  rw [lexF_K] at hrd ⊢
  refine ⟨s, _, _, rfl, (join_c (hL.pu hp1) hrd textsK (by decide +kernel)).mono ?_⟩
  rintro e w2 ⟨rfl, hp2⟩
  rw [joinF_K]
  refine ⟨_, _, rfl, ?_⟩
  refine hR _ _ ⟨?_, hp1.trans hp2⟩
  rw [show (⟨#[88, 32, 61, 32, 49, 32, 43, 32, 50, 10]⟩ : ByteArray) = bs srcJ from rfl, beq_self_eq_true]
end Go.Proofs.YtlogipcgejfnnaaGreatDoor

/- Lex: which tokens a source has: that the statement answers true. The signs: the library's tables of letters and of bytes. -/
set_option maxRecDepth 100000
set_option linter.unusedVariables false
set_option linter.unusedSimpArgs false
namespace Go.Proofs.YtlogipcgejfnnaaGreatDoor
open Go.Sh Go.Sh.Lx Go.RowKit
variable {w0 w w' : World}
end Go.Proofs.YtlogipcgejfnnaaGreatDoor

/- Lex: the lines of a source, as the reference tells, and that the statement answers true. The signs: the library's tables of letters and of bytes. -/
set_option maxRecDepth 100000
set_option linter.unusedVariables false
set_option linter.unusedSimpArgs false
namespace Go.Proofs.YtlogipcgejfnnaaGreatDoor
open Go.Sh Go.Sh.Lx Go.RowKit
variable {w0 w w' : World}
abbrev slV (s : SV) : Value := .slice s.a s.len s.cap
theorem rowsS_in : ∀ {l : List Tok} {acc row : List Tok}, row ∈ rowsS acc l -> row.length <= acc.length + l.length /\ ∀ t ∈ row, t ∈ acc ∨ t ∈ l
  | [], acc, row, h => by simp [rowsS] at h
  | x :: r, acc, row, h => by
    have h : row ∈ (if x.kind = 5 then acc :: rowsS [] r else rowsS (acc ++ [x]) r) := h
    split at h
    · rcases List.mem_cons.1 h with rfl | h
      · exact ⟨by simp, fun t ht => .inl ht⟩
      · obtain ⟨h1, h2⟩ := rowsS_in h
        refine ⟨by simp at h1 ⊢; omega, fun t ht => ?_⟩
        rcases h2 t ht with h3 | h3
        · cases h3
        · exact .inr (List.mem_cons_of_mem _ h3)
    · obtain ⟨h1, h2⟩ := rowsS_in h
      refine ⟨by simp at h1 ⊢; omega, fun t ht => ?_⟩
      rcases h2 t ht with h3 | h3
      · rcases List.mem_append.1 h3 with h4 | h4
        · exact .inl h4
        · simp at h4; subst h4; exact .inr (List.mem_cons_self ..)
      · exact .inr (List.mem_cons_of_mem _ h3)
theorem u59_ : Tryz.prog.underlying 59 = some (.slice 23) := by kernel_rfl
theorem u23_ : Tryz.prog.underlying 23 = some (.slice 49) := by kernel_rfl
theorem info23 : (Tryz.prog.info? 23).map (fun i => (i.zero, i.size, i.bytes)) = some (some (.slice none 0 0), 1, 24) := by kernel_rfl
theorem row_push_tok {s : SV} {vs : List Value} (h : RowAt w 49 3 s vs) {a : Addr} (x : Tok) (hc : ∀ j v, (tokV x)[j]? = some v -> w.cell? (a.add j) = some v) (hb : s.len <= 1000000000) :
    ∃ (s' : SV) (w' : World), (Builtin.append_ #[23, 23] 23 #[.slice s.a s.len s.cap, .slice (some a) 1 1]).run Tryz.prog w = .ok (.slice s'.a s'.len s'.cap) w' /\ RowAt w' 49 3 s' (vs ++ tokV x) /\ Fr (· ∈ blkOf s) w w' /\ (∀ k ∈ blkOf s', k ∈ blkOf s ∨ w.heap.size <= k) /\ s'.len = s.len + 1 := by
  obtain ⟨i, h1, h2, h3, h4⟩ := info_parts info49
  exact row_append (P := Tryz.prog) u23_ h1 h2 h3 rfl (by decide) h (m := 1) (c := 1) (news := tokV x) rfl hc (fun v hv => by
    simp only [tokV, List.mem_cons, List.not_mem_nil, or_false] at hv
    rcases hv with rfl | rfl | rfl <;> rfl) (by rw [h4]; omega)
structure RInv (w0 w : World) (T : List Tok) (k : Nat) (s3 s4 : SV) (outs : List SV) (rows : List (List Tok)) (acc : List Tok) : Prop where
  pu : Pu w0 w
  row3 : RowAt w 23 1 s3 (outs.map slV)
  row4 : RowAt w 49 3 s4 (rowOf acc)
  len : outs.length = rows.length
  each : ∀ (i : Nat) (s : SV) (r : List Tok), outs[i]? = some s -> rows[i]? = some r -> RowAt w 49 3 s (rowOf r) /\ (∀ b ∈ blkOf s, b ∉ blkOf s3 /\ b ∉ blkOf s4)
  law : rows ++ rowsS acc (T.drop k) = rowsS [] T
  nr : rows.length <= k
  na : acc.length <= k
  b3 : ∀ b ∈ blkOf s3, w0.heap.size <= b
  b4 : ∀ b ∈ blkOf s4, w0.heap.size <= b
  dis : ∀ b ∈ blkOf s4, b ∉ blkOf s3
theorem rows_c {s : SV} {T : List Tok} (hs : RdSl w0 s T) (hT : T.length <= 1200) : Calls Tryz.prog 33 #[.slice s.a s.len s.cap] w0 fun e w' => Pu w0 w' /\ ∃ t : SV, e = .returned (.slice t.a t.len t.cap) /\ RdSl w' t (rowsS [] T) := by
  have hsl := hs.len
  refine calls_by (F33_calls _ w0) fun R hR => ?_
  refine loopUp T.length (fun k t w' => t.2.2 = (k : Int) /\ ∃ outs rows acc, RInv w0 w' T k t.1 t.2.1 outs rows acc) ⟨rfl, [], [], [], Pu.refl _, RowAt.nil _ _ _, RowAt.nil _ _ _, rfl, fun i s r h => by simp at h, rfl, Nat.le_refl _, Nat.le_refl _, fun b h => by simp [blkOf] at h, fun b h => by simp [blkOf] at h, fun b h => by simp [blkOf] at h⟩ ?_
  rintro k J ⟨s3, s4, n⟩ w2 hk ⟨rfl, outs, rows, acc, I⟩ hJ
  dsimp only at I ⊢
  have hP2 := I.pu.size
  have hl3 : s3.len = outs.length := by have := I.row3.1; simpa using this.symm
  have hl4 : s4.len = acc.length := by have h1 := I.row4.1; have h2 := rowOf_len acc; omega
  have hle := I.len
  have hnr := I.nr
  have hna := I.na
  refine Br.of (fun q => ?_) (fun q => ?_)
  · have q := dtrue q
    have hk2 : k < T.length := by omega
    obtain ⟨t, htk⟩ := at_k hk2
    obtain ⟨a, ha, h1, h2, ck, c0, c1, c2⟩ := RdSl.tok (hs.pu I.pu) htk
    have hw : IntKind.i64.wrap ((k : Int) + 1) = ((k + 1 : Nat) : Int) := by rw [wrap_in (by omega) (by omega)]; omega
    rw [hw]
    have hlaw := I.law
    rw [drop_at htk] at hlaw
    have hlaw : rows ++ (if t.kind = 5 then acc :: rowsS [] (T.drop (k + 1)) else rowsS (acc ++ [t]) (T.drop (k + 1))) = rowsS [] T := hlaw
    refine ⟨a, ha, h1, h2, _, ck, Br.of (fun q5 => ?_) (fun q5 => ?_)⟩
    · have q5 := btrue q5
      rw [if_pos q5] at hlaw
      refine alB fun w3 hp3 hb3 => ?_
      obtain ⟨s5, w4, hra, hr5, hf5, hb5, hl5⟩ := row_push (P := Tryz.prog) (t := 59) (ty := 59) u59_ info23 rfl (I.row3.pu hp3) (a := ⟨w2.heap.size, 0, none⟩) (u := slV s4) (by rw [cell_blk hb3]; rfl) rfl (by omega)
      refine ⟨s5, w4, hra, hJ _ _ hk2 ⟨rfl, outs ++ [s4], rows ++ [acc], [], ?_⟩⟩
      have hp3z := hp3.size
      refine ⟨Pu.andNew (I.pu.trans hp3) hf5 I.b3, by rw [List.map_append]; exact hr5, RowAt.nil _ _ _, by simp [hle], fun i s' r hi hr => ?_, by rw [List.append_assoc]; exact hlaw, by simp; omega, Nat.zero_le _, fun b hb => ?_, fun b h => by simp [blkOf] at h, fun b h => by simp [blkOf] at h⟩
      · have hcase : (outs[i]? = some s' /\ rows[i]? = some r) ∨ (s' = s4 /\ r = acc) := by
          by_cases hi2 : i < outs.length
          · rw [List.getElem?_append_left hi2] at hi
            rw [List.getElem?_append_left (by omega)] at hr
            exact .inl ⟨hi, hr⟩
          · rw [List.getElem?_append_right (by omega)] at hi
            rw [List.getElem?_append_right (by omega)] at hr
            have hi0 : i - outs.length = 0 := by have := (List.getElem?_eq_some_iff.1 hi).1; simp at this; omega
            have hr0 : i - rows.length = 0 := by omega
            rw [hi0] at hi; rw [hr0] at hr
            exact .inr ⟨by simpa using hi.symm, by simpa using hr.symm⟩
        rcases hcase with ⟨h1, h2⟩ | ⟨rfl, rfl⟩
        · obtain ⟨g1, g2⟩ := I.each i s' r h1 h2
          have glt := g1.lt
          refine ⟨(g1.pu hp3).fr hf5 fun b hb => (g2 b hb).1, fun b hb => ⟨fun hb5' => ?_, fun h => by simp [blkOf] at h⟩⟩
          rcases hb5 b hb5' with h | h
          · exact (g2 b hb).1 h
          · have := glt b hb; omega
        · have glt := I.row4.lt
          refine ⟨(I.row4.pu hp3).fr hf5 fun b hb => I.dis b hb, fun b hb => ⟨fun hb5' => ?_, fun h => by simp [blkOf] at h⟩⟩
          rcases hb5 b hb5' with h | h
          · exact I.dis b hb h
          · have := glt b hb; omega
      · rcases hb5 b hb with h | h
        · exact I.b3 b h
        · omega
    · have q5 := bfalse q5
      rw [if_neg q5] at hlaw
      refine ⟨a, ha, h1, h2, _, c0, _, c1, _, c2, alB fun w3 hp3 hb3 => ?_⟩
      have hp3z := hp3.size
      obtain ⟨s5, w4, hra, hr5, hf5, hb5, hl5⟩ := row_push_tok (I.row4.pu hp3) (a := ⟨w2.heap.size, 0, none⟩) t (fun j v hv => by
        rw [cl hb3 j]; rw [List.getElem?_toArray.symm] at hv; exact hv) (by omega)
      refine ⟨s5, w4, hra, hJ _ _ hk2 ⟨rfl, outs, rows, acc ++ [t], ?_⟩⟩
      have g3lt := I.row3.lt
      refine ⟨Pu.andNew (I.pu.trans hp3) hf5 I.b4, (I.row3.pu hp3).fr hf5 fun b hb h => I.dis b h hb, ?_, hle, fun i s' r hi hr => ?_, hlaw, by omega, by simp; omega, I.b3, fun b hb => ?_, fun b hb => ?_⟩
      · have e : rowOf (acc ++ [t]) = rowOf acc ++ tokV t := by unfold rowOf; rw [List.flatMap_append]; simp
        rw [e]; exact hr5
      · obtain ⟨g1, g2⟩ := I.each i s' r hi hr
        have glt := g1.lt
        refine ⟨(g1.pu hp3).fr hf5 fun b hb => (g2 b hb).2, fun b hb => ⟨(g2 b hb).1, fun hb5' => ?_⟩⟩
        rcases hb5 b hb5' with h | h
        · exact (g2 b hb).2 h
        · have := glt b hb; omega
      · rcases hb5 b hb with h | h
        · exact I.b4 b h
        · omega
      · rcases hb5 b hb with h | h
        · exact I.dis b h
        · intro h3; have := g3lt b h3; omega
  · have q := dfalse q
    have hlaw := I.law
    rw [List.drop_eq_nil_of_le (by omega)] at hlaw
    have hlaw : rows = rowsS [] T := by rw [← hlaw]; simp [rowsS]
    refine hR _ _ ⟨I.pu, s3, rfl, ?_⟩
    rw [← hlaw]
    have hcap := I.row3.le_cap
    refine ⟨by omega, hcap.1, by omega, fun i r hr => ?_⟩
    obtain ⟨sv, hsv⟩ := at_k (l := outs) (k := i) (by have := (List.getElem?_eq_some_iff.1 hr).1; omega)
    obtain ⟨g1, g2⟩ := I.each i sv r hsv hr
    obtain ⟨a, ha, hc, _⟩ := I.row3.cell (j := i) (v := slV sv) (by rw [List.getElem?_map, hsv]; rfl)
    have hrm := rowsS_in (hlaw ▸ List.mem_of_getElem? hr)
    have hrd : RdSl w2 sv r := rd_toks g1 (fun u hu => by
      rcases hrm.2 u hu with h | h
      · cases h
      · obtain ⟨j, hj⟩ := List.getElem?_of_mem h
        obtain ⟨_, _, _, h1, h2, _⟩ := tokAt (hs.pu I.pu) hj
        exact ⟨h1, h2⟩) (by have := hrm.1; simp at this; omega)
    refine ⟨a, ha, [slV sv], ⟨sv, rfl, hrd⟩, fun j v hv => ?_⟩
    have hj : j = 0 := by cases j with
      | zero => rfl
      | succ j => simp at hv
    subst hj
    have hv : slV sv = v := by simpa using hv
    rw [← hv, add_add]
    show w2.cell? (a.add (i * 1 + 0)) = _
    rw [show i * 1 + 0 = i by omega]; exact hc
end Go.Proofs.YtlogipcgejfnnaaGreatDoor

/- Lex: the lines of a source, as both packages tell, and that the statement answers true. The signs: the library's tables of letters and of bytes. -/
set_option maxRecDepth 100000
set_option linter.unusedVariables false
set_option linter.unusedSimpArgs false
namespace Go.Proofs.YtlogipcgejfnnaaGreatDoor
open Go.Sh Go.Sh.Lx Go.RowKit
variable {w0 w w' : World}
theorem rlines_c (d : List UInt8) (hd : d.length <= 20000) : Calls Tryz.prog 16 #[.string (bs d)] w fun e w' => ∃ s : SV, e = .returned (.tuple #[.slice s.a s.len s.cap, .int .i64 (linesF d).2]) /\ RowAt w' 9 1 s (strV ((linesF d).1.map bs)) /\ Pu w w' := by
  refine calls_by (F16_calls _ w) fun R hR => (rlex_c d (by omega)).mono ?_
  rintro e w1 ⟨hp1, s, rfl, hrd⟩
  refine ⟨s, _, _, rfl, Br.of (fun q => ?_) (fun q => ?_)⟩
  · refine hR _ _ ⟨⟨none, 0, 0⟩, ?_, ?_, hp1⟩
    · unfold linesF; rw [if_pos (bntrue q)]
    · unfold linesF; rw [if_pos (bntrue q)]; exact RowAt.nil _ _ _
  have q := bnfalse q
  obtain ⟨htx, hlast, hlen⟩ := lexF_texts q
  have e1 : linesF d = ((rowsS [] (lexF d).1).map (joinS false), 0) := by unfold linesF; rw [if_neg (by simp [q])]
  generalize (lexF d).1 = T at hrd htx hlast hlen e1
  refine (rows_c hrd hlen).mono ?_
  rintro e w2 ⟨hp2, t, rfl, hr2⟩
  have h2l := hr2.len
  have h2m := hr2.lim
  refine ⟨t, rfl, ?_⟩
  obtain ⟨rs, hrs⟩ : ∃ rs, rs = rowsS [] T := ⟨_, rfl⟩
  rw [← hrs] at hr2 h2l e1
  have hrsl : rs.length <= T.length := by
    have key : ∀ (l acc : List Tok), (rowsS acc l).length <= l.length := by
      intro l
      induction l with
      | nil => intro acc; simp [rowsS]
      | cons x r ih =>
        intro acc
        show (if x.kind = 5 then acc :: rowsS [] r else rowsS (acc ++ [x]) r).length <= _
        split
        · have := ih []; simp; omega
        · have := ih (acc ++ [x]); simp; omega
    rw [hrs]; exact key T []
  refine loopUp rs.length (fun k u w' => u.2 = (k : Int) /\ Pu w2 w' /\ RowAt w' 9 1 u.1 (strV (((rs.take k).map (joinS false)).map bs)) /\ (∀ i ∈ blkOf u.1, w2.heap.size <= i)) ⟨rfl, Pu.refl _, RowAt.nil _ _ _, fun i hi => by simp [blkOf] at hi⟩ ?_
  rintro k J ⟨s7, n⟩ w3 hk ⟨rfl, hp3, hr7, hb7⟩ hJ
  dsimp only at hr7 hb7 ⊢
  refine Br.of (fun q2 => ?_) (fun q2 => ?_)
  · have q2 := dtrue q2
    have hk2 : k < rs.length := by omega
    obtain ⟨row, hrow⟩ := at_k hk2
    obtain ⟨a, ha, vs, ⟨sv, rfl, hsv⟩, hc⟩ := (hr2.pu hp3).get k row hrow
    have hc0 : w3.cell? ((a.add (k * 1)).add 0) = some (.slice sv.a sv.len sv.cap) := hc 0 _ rfl
    rw [add0] at hc0
    have hin := rowsS_in (hrs ▸ List.mem_of_getElem? hrow)
    have hmem : ∀ u ∈ row, u.text.size <= 5000 := fun u hu => by
      rcases hin.2 u hu with h | h
      · cases h
      · exact htx u h
    have hrl : row.length <= 1200 := by have := hin.1; simp at this; omega
    have hszb : sizeT row <= 140737488355328 := Nat.le_trans (sizeT_le hmem) (Nat.le_trans (Nat.mul_le_mul_right _ hrl) (by omega))
    refine ⟨a, ha, by omega, by omega, sv, by rw [toNat_i]; exact hc0, (rjoined_c hsv (fun u hu => by have := hmem u hu; omega) hszb).mono ?_⟩
    rintro x w4 ⟨rfl, hp4⟩
    refine ⟨_, rfl, alB fun w5 hp5 hb5 => ?_⟩
    have hl7 : s7.len = k := by have := hr7.1; simp [strV] at this; omega
    obtain ⟨s9, w6, hra, hr9, hf9, hb9, hl9⟩ := row_push (P := Tryz.prog) (t := 32) (ty := 32) u32_ info9 rfl ((hr7.pu hp4).pu hp5) (a := ⟨w4.heap.size, 0, none⟩) (u := .string (bs (joinS false row))) (by rw [cell_blk hb5]; rfl) rfl (by omega)
    have hP5 := (hp3.trans hp4).trans hp5
    have hw : IntKind.i64.wrap ((k : Int) + 1) = ((k + 1 : Nat) : Int) := by rw [wrap_in (by omega) (by omega)]; omega
    rw [hw]
    refine ⟨s9, w6, hra, hJ _ _ hk2 ⟨rfl, Pu.andNew hP5 hf9 hb7, ?_, fun i hi => ?_⟩⟩
    · have : strV (((rs.take (k + 1)).map (joinS false)).map bs) = strV (((rs.take k).map (joinS false)).map bs) ++ [.string (bs (joinS false row))] := by rw [take_at hrow]; simp [strV]
      rw [this]; exact hr9
    · rcases hb9 i hi with h | h
      · exact hb7 i h
      · have := hP5.size; omega
  · have q2 := dfalse q2
    have hkn : k = rs.length := by omega
    subst hkn
    rw [List.take_length] at hr7
    refine hR _ _ ⟨s7, by rw [e1], by rw [e1]; exact hr7, (hp1.trans hp2).trans hp3⟩
theorem sameTexts_c {a b : SV} {l : List ByteArray} (ha : RowAt w 9 1 a (strV l)) (hb : RowAt w 9 1 b (strV l)) : Calls Tryz.prog 17 #[.slice a.a a.len a.cap, .slice b.a b.len b.cap] w fun e w' => e = .returned (.bool true) /\ Pu w w' := by
  refine F17_calls a b w _ ?_
  have hla : a.len = l.length := by have := ha.1; simpa [strV] using this.symm
  have hlb : b.len = l.length := by have := hb.1; simpa [strV] using this.symm
  have hc := ha.le_cap
  have hm : maxLen = 9223372036854775807 := by unfold maxLen; omega
  refine Br.of (fun d => absurd d (by simp [hla, hlb])) (fun d => ?_)
  refine loopUp l.length (fun k t w' => t = (k : Int) /\ Pu w w') ⟨rfl, Pu.refl _⟩ ?_
  rintro k J t w2 hk ⟨rfl, hp2⟩ hJ
  refine Br.of (fun d1 => ?_) (fun d1 => ⟨rfl, hp2⟩)
  have hkn : k < l.length := by have := dtrue d1; omega
  refine dwE_intro fun w3 hp3 hh3 => ?_
  obtain ⟨x, hx⟩ := at_k hkn
  obtain ⟨a1, ha1, hc1, _⟩ := ((ha.pu hp2).pu hp3).cell (j := k) (v := .string x) (by unfold strV; rw [List.getElem?_map, hx]; rfl)
  obtain ⟨a2, ha2, hc2, _⟩ := ((hb.pu hp2).pu hp3).cell (j := k) (v := .string x) (by unfold strV; rw [List.getElem?_map, hx]; rfl)
  refine ⟨a1, ha1, by omega, by omega, x, by rw [Int.toNat_natCast, Nat.mul_one]; exact hc1, a2, ha2, by omega, by omega, x, by rw [Int.toNat_natCast, Nat.mul_one]; exact hc2, ?_⟩
  rw [toList_beq]
  refine Br.of (fun d2 => absurd d2 (by simp)) (fun d2 => ?_)
  rw [wrap_in (by omega) (by omega)]
  exact hJ _ _ hkn ⟨rfl, hp2.trans hp3⟩
theorem liness_c (w : World) (hL : Laid w) (s : ByteArray) (hs : s.size <= 140737488355328) : Calls Tryz.prog 5 #[.string s] w fun e w' => e = .returned (.bool true) /\ Pu w w' := by
  obtain ⟨d, rfl, _⟩ := text_bs s
  rw [bs_size] at hs
  refine calls_by (F5_calls _ w) fun R hR => Br.of (fun q => ?_) (fun q => ?_)
  · refine (known_c hL).mono ?_
    rintro e w1 ⟨rfl, hp⟩
    exact ⟨_, rfl, hR _ _ ⟨rfl, hp⟩⟩
  · have q := dfalse q
    rw [bs_size] at q
    refine (lines_c hL d (by omega)).mono ?_
    rintro e w1 ⟨s1, rfl, h1, hp1⟩
    refine ⟨s1, _, rfl, (rlines_c d (by omega)).mono ?_⟩
    rintro e w2 ⟨s2, rfl, h2, hp2⟩
    refine ⟨s2, _, rfl, (sameTexts_c (h1.pu hp2) h2).mono ?_⟩
    rintro e w3 ⟨rfl, hp3⟩
    have hP := (hp1.trans hp2).trans hp3
    refine ⟨_, rfl, Br.of (fun _ => Br.of (fun _ => (known_c (hL.pu hP)).mono ?_) (fun q => absurd rfl (bfalse q))) (fun q => by cases q)⟩
    rintro e w4 ⟨rfl, hp4⟩
    exact ⟨_, rfl, hR _ _ ⟨rfl, hP.trans hp4⟩⟩
end Go.Proofs.YtlogipcgejfnnaaGreatDoor
