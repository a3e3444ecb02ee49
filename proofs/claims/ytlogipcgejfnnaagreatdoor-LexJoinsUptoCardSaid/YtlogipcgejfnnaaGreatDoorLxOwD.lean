import Derived.Test.YtlogipcgejfnnaaGreatDoorLxOwC
import Derived.Test.YtlogipcgejfnnaaGreatDoorLxPrB
import Derived.Test.YtlogipcgejfnnaaGreatDoorLxOp
import Derived.Test.YtlogipcgejfnnaaGreatDoorRows
/- Lex: the text of tokens, as both packages make it. No condition but those stated. -/
set_option maxRecDepth 100000
set_option linter.unusedVariables false
set_option linter.unusedSimpArgs false
namespace Go.Proofs.YtlogipcgejfnnaaGreatDoor
open Go.Sh Go.Sh.Lx Go.RowKit
variable {w0 w w' : World}
def writL (k : Int) (x : List UInt8) : List UInt8 :=
  if k = 2 then (if x.contains 34 then 39 :: (x ++ [39]) else 34 :: (x ++ [34]))
  else if k = 3 then (if x.length ≠ 8 then 123 :: (x ++ [125]) else [123, 94] ++ x.take 4 ++ [45] ++ (x.drop 4).take 2 ++ [45] ++ x.drop 6 ++ [125])
  else x
def writS (t : Tok) : List UInt8 := writL t.kind t.text.data.toList
theorem writS_bs (k a : Int) (x : List UInt8) : writS ⟨k, a, bs x⟩ = writL k x := by unfold writS; rw [bs_list]
def joinS : Bool -> List Tok -> List UInt8
  | _, [] => []
  | g, t :: l => if t.kind = 5 then 10 :: joinS false l else (if g then [32] else []) ++ writS t ++ joinS true l
theorem writS_len (t : Tok) : (writS t).length <= t.text.size + 5 := by
  have hs : t.text.data.toList.length = t.text.size := size_list t.text
  unfold writS writL
  split
  · split <;> (simp only [List.length_cons, List.length_append, List.length_nil]; omega)
  · split
    · split
      · simp only [List.length_cons, List.length_append, List.length_nil]; omega
      · rename_i h8
        have h8 : t.text.data.toList.length = 8 := by simpa using h8
        simp only [List.length_append, List.length_cons, List.length_nil, List.length_take, List.length_drop]; omega
    · omega
def sizeT (l : List Tok) : Nat := (l.map fun t => t.text.size + 6).sum
theorem joinS_len : ∀ (g : Bool) (l : List Tok), (joinS g l).length <= sizeT l
  | _, [] => by simp [joinS, sizeT]
  | g, t :: l => by
    have h1 := joinS_len false l
    have h2 := joinS_len true l
    have h3 := writS_len t
    unfold joinS
    have hs : sizeT (t :: l) = t.text.size + 6 + sizeT l := by unfold sizeT; simp
    rw [hs]
    split
    · simp; omega
    · rw [List.length_append, List.length_append]
      cases g <;> simp <;> omega
theorem text_bs (s : ByteArray) : ∃ l, s = bs l /\ s.data.toList = l := ⟨s.data.toList, (list_bs s).symm, rfl⟩
theorem contains_index (l : List UInt8) (c : UInt8) : decide (0 <= Lib.indexByte l c) = l.contains c := by
  rw [indexByte_tw]
  by_cases h : (l.takeWhile fun b => !decide (b = c)).length < l.length
  · rw [if_pos h, decide_eq_true (by omega)]
    obtain ⟨x, hx⟩ := at_k h
    have h2 := tw_end (f := fun b => !decide (b = c)) hx
    have h3 : x = c := by simpa using h2
    have : c ∈ l := by rw [← h3]; exact List.mem_of_getElem? hx
    exact (by simpa using this)
  · rw [if_neg h, decide_eq_false (by omega)]
    symm
    have hle := tw_le (fun b => !decide (b = c)) l
    have hall : ∀ x ∈ l, x ≠ c := fun x hx e => by
      obtain ⟨j, hj⟩ := List.mem_iff_getElem?.1 hx
      have hjl := (List.getElem?_eq_some_iff.1 hj).1
      obtain ⟨y, hy, hf⟩ := tw_lt (f := fun b => !decide (b = c)) (l := l) (k := j) (by omega)
      rw [hj] at hy; cases hy
      rw [e] at hf; simp at hf
    simp only [List.contains_eq_mem, decide_eq_false_iff_not]
    intro hm; exact hall c hm rfl
theorem quote_c (l : List UInt8) (w : World) : Calls Tryz.prog 74 #[.string (bs l), .string (⟨#[34]⟩ : ByteArray)] w fun e w' => e = .returned (.bool (l.contains 34)) /\ w' = w := by
  refine (Any.strings_Contains_one Tryz.lays144 (bs l) 34 w).mono ?_
  rintro e w' ⟨rfl, rfl⟩
  rw [bs_list, contains_index]; exact ⟨rfl, rfl⟩
theorem has_c (l : List UInt8) (hl : l.length <= 140737488355328) (w : World) : Calls Tryz.prog 75 #[.string (bs l), .int .u8 34] w fun e w' => e = .returned (.bool (l.contains 34)) /\ w' = w := by
  refine calls_by (F75_calls _ _ w) fun R hR => loopUp l.length (fun k n w' => n = (k : Int) /\ w' = w /\ l.contains 34 = (l.drop k).contains 34) ⟨rfl, rfl, rfl⟩ ?_
  rintro k J n w1 hk ⟨rfl, rfl, hc⟩ hJ
  refine Br.of (fun q => ?_) (fun q => hR _ _ ⟨?_, rfl⟩)
  · have q := dtrue q
    rw [bs_size_i] at q
    have hk2 : k < l.length := by omega
    obtain ⟨x, hx⟩ := at_k hk2
    rw [drop_at hx, List.contains_cons] at hc
    have e34 : (((x.toNat : Nat) : Int) == 34) = (34 == x) := by
      rw [beq_dec]
      by_cases e : x = 34
      · subst e; rfl
      · have h1 : (34 == x) = false := by simp; exact fun h => e h.symm
        rw [h1]; exact decide_eq_false fun h => e (UInt8.toNat_inj.1 (by show x.toNat = 34; omega))
    refine ⟨x, by omega, by rw [toNat_i]; exact bs_get hx, ?_⟩
    rw [e34]
    refine Br.of (fun q2 => hR _ _ ⟨by rw [hc, q2]; rfl, rfl⟩) (fun q2 => ?_)
    rw [q2, Bool.false_or] at hc
    rw [wrap_in (by omega) (by omega)]
    exact hJ _ _ hk2 ⟨by omega, rfl, hc⟩
  · have q := dfalse q
    rw [bs_size_i] at q
    rw [hc, List.drop_eq_nil_of_le (by omega)]; rfl
theorem cat_bs (a b : List UInt8) : ((bs a).size + (bs b).size : Nat) = a.length + b.length := by rw [bs_size, bs_size]
theorem date_text {x : List UInt8} (h8 : x.length = 8) : (((((((⟨#[123, 94]⟩ : ByteArray) ++ ((bs x).extract 0 ((4 : Int).toNat))) ++ (⟨#[45]⟩ : ByteArray)) ++ ((bs x).extract ((4 : Int).toNat) ((6 : Int).toNat))) ++ (⟨#[45]⟩ : ByteArray)) ++ ((bs x).extract ((6 : Int).toNat) (bs x).size)) ++ (⟨#[125]⟩ : ByteArray)) =
    bs ([123, 94] ++ x.take 4 ++ [45] ++ (x.drop 4).take 2 ++ [45] ++ x.drop 6 ++ [125]) := by
  have e1 : (⟨#[123, 94]⟩ : ByteArray) = bs [123, 94] := rfl
  have e2 : (⟨#[45]⟩ : ByteArray) = bs [45] := rfl
  have e3 : (⟨#[125]⟩ : ByteArray) = bs [125] := rfl
  have i4 : (4 : Int).toNat = 4 := rfl
  have i6 : (6 : Int).toNat = 6 := rfl
  rw [e1, e2, e3, i4, i6, extract_take, extract_take, extract_drop, List.drop_zero, List.drop_take, bs_append, bs_append, bs_append, bs_append, bs_append, bs_append]
theorem date_sizes {x : List UInt8} (h8 : x.length = 8) :
    (((⟨#[123, 94]⟩ : ByteArray).size + ((bs x).extract 0 ((4 : Int).toNat)).size : Nat) : Int) <= 9223372036854775807 /\
    ((((⟨#[123, 94]⟩ : ByteArray) ++ ((bs x).extract 0 ((4 : Int).toNat))).size + (⟨#[45]⟩ : ByteArray).size : Nat) : Int) <= 9223372036854775807 /\
    (((((⟨#[123, 94]⟩ : ByteArray) ++ ((bs x).extract 0 ((4 : Int).toNat))) ++ (⟨#[45]⟩ : ByteArray)).size + ((bs x).extract ((4 : Int).toNat) ((6 : Int).toNat)).size : Nat) : Int) <= 9223372036854775807 /\
    ((((((⟨#[123, 94]⟩ : ByteArray) ++ ((bs x).extract 0 ((4 : Int).toNat))) ++ (⟨#[45]⟩ : ByteArray)) ++ ((bs x).extract ((4 : Int).toNat) ((6 : Int).toNat))).size + (⟨#[45]⟩ : ByteArray).size : Nat) : Int) <= 9223372036854775807 /\
    (((((((⟨#[123, 94]⟩ : ByteArray) ++ ((bs x).extract 0 ((4 : Int).toNat))) ++ (⟨#[45]⟩ : ByteArray)) ++ ((bs x).extract ((4 : Int).toNat) ((6 : Int).toNat))) ++ (⟨#[45]⟩ : ByteArray)).size + ((bs x).extract ((6 : Int).toNat) (bs x).size).size : Nat) : Int) <= 9223372036854775807 /\
    ((((((((⟨#[123, 94]⟩ : ByteArray) ++ ((bs x).extract 0 ((4 : Int).toNat))) ++ (⟨#[45]⟩ : ByteArray)) ++ ((bs x).extract ((4 : Int).toNat) ((6 : Int).toNat))) ++ (⟨#[45]⟩ : ByteArray)) ++ ((bs x).extract ((6 : Int).toNat) (bs x).size)).size + (⟨#[125]⟩ : ByteArray).size : Nat) : Int) <= 9223372036854775807 := by
  have e1 : (⟨#[123, 94]⟩ : ByteArray) = bs [123, 94] := rfl
  have e2 : (⟨#[45]⟩ : ByteArray) = bs [45] := rfl
  have e3 : (⟨#[125]⟩ : ByteArray) = bs [125] := rfl
  have i4 : (4 : Int).toNat = 4 := rfl
  have i6 : (6 : Int).toNat = 6 := rfl
  rw [e1, e2, e3, i4, i6, extract_take, extract_take, extract_drop, List.drop_zero, List.drop_take, bs_append, bs_append, bs_append, bs_append, bs_append]
  simp only [cat_bs, List.length_append, List.length_take, List.length_drop, List.length_cons, List.length_nil, h8]
  omega
theorem quoted_cat (q : UInt8) (x : List UInt8) : ((⟨#[q]⟩ : ByteArray) ++ bs x) ++ (⟨#[q]⟩ : ByteArray) = bs (q :: (x ++ [q])) := by
  have e : (⟨#[q]⟩ : ByteArray) = bs [q] := rfl
  rw [e, bs_append, bs_append]; rfl
theorem brace_cat (x : List UInt8) : ((⟨#[123]⟩ : ByteArray) ++ bs x) ++ (⟨#[125]⟩ : ByteArray) = bs (123 :: (x ++ [125])) := by
  have e : (⟨#[123]⟩ : ByteArray) = bs [123] := rfl
  have e2 : (⟨#[125]⟩ : ByteArray) = bs [125] := rfl
  rw [e, e2, bs_append, bs_append]; rfl
theorem cat1_le (a c : UInt8) (x : List UInt8) (hx : x.length <= 140737488355328) : (((⟨#[a]⟩ : ByteArray).size + (bs x).size : Nat) : Int) <= 9223372036854775807 /\ ((((⟨#[a]⟩ : ByteArray) ++ bs x).size + (⟨#[c]⟩ : ByteArray).size : Nat) : Int) <= 9223372036854775807 := by
  have e : (⟨#[a]⟩ : ByteArray) = bs [a] := rfl
  have e2 : (⟨#[c]⟩ : ByteArray) = bs [c] := rfl
  rw [e, e2, bs_append, cat_bs, cat_bs]
  simp only [List.length_append, List.length_cons, List.length_nil]
  omega
theorem written_c (t : Tok) (ht : t.text.size <= 140737488355328) (w : World) : Calls Tryz.prog 48 #[.agg (tokV t).toArray] w fun e w' => e = .returned (.string (bs (writS t))) /\ Pu w w' := by
  obtain ⟨k, a, s⟩ := t
  obtain ⟨x, rfl, hx⟩ := text_bs s
  have hxl : x.length <= 140737488355328 := by have h := ht; rw [bs_size] at h; exact h
  rw [writS_bs]
  unfold writL
  refine calls_by (F48_calls _ _ _ w) fun R hR => alB fun w1 hp1 hb1 => ⟨_, cl0 hb1, ?_⟩
  refine Br.of (fun q => ⟨_, cl hb1 2, (quote_c x w1).mono ?_⟩) (fun q => ?_)
  · have q := btrue q
    rw [if_pos q] at hR
    rintro e w2 ⟨rfl, rfl⟩
    refine ⟨_, rfl, Br.of (fun q2 => ?_) (fun q2 => ?_)⟩
    · rw [if_pos q2] at hR
      obtain ⟨z1, z2⟩ := cat1_le 39 39 x hxl
      exact ⟨_, cl hb1 2, z1, z2, hR _ _ ⟨by rw [quoted_cat], hp1⟩⟩
    · rw [if_neg (by rw [q2]; simp)] at hR
      obtain ⟨z1, z2⟩ := cat1_le 34 34 x hxl
      exact ⟨_, cl hb1 2, z1, z2, hR _ _ ⟨by rw [quoted_cat], hp1⟩⟩
  · have q := bfalse q
    rw [if_neg q] at hR
    refine Br.of (fun q2 => ⟨_, cl hb1 2, Br.of (fun q3 => ?_) (fun q3 => ?_)⟩) (fun q2 => ⟨_, cl hb1 2, hR _ _ ⟨?_, hp1⟩⟩)
    · have q2 := btrue q2
      have q3 := bntrue q3
      rw [bs_size_i] at q3
      rw [if_pos q2, if_pos (by omega)] at hR
      obtain ⟨z1, z2⟩ := cat1_le 123 125 x hxl
      exact ⟨_, cl hb1 2, z1, z2, hR _ _ ⟨by rw [brace_cat], hp1⟩⟩
    · have q2 := btrue q2
      have q3 := bnfalse q3
      rw [bs_size_i] at q3
      have h8 : x.length = 8 := by omega
      rw [if_pos q2, if_neg (by omega)] at hR
      refine dwE_intro fun w2 hp2 _ => ?_
      have hb2 := hp2.blk hb1
      have hsz : (bs x).size = 8 := by rw [bs_size]; exact h8
      obtain ⟨z1, z2, z3, z4, z5, z6⟩ := date_sizes h8
      refine ⟨_, cl hb2 2, by omega, by rw [hsz]; decide, by omega, z1, z2, _, cl hb2 2, by omega, by rw [hsz]; decide, by omega, by decide, z3, z4, _, cl hb2 2, Nat.le_refl _, by omega, by rw [hsz]; decide, z5, z6, hR _ _ ⟨?_, hp1.trans hp2⟩⟩
      rw [date_text h8]
    · rw [if_neg (bfalse q2)]
theorem rwritten_c (t : Tok) (ht : t.text.size <= 140737488355328) (w : World) : Calls Tryz.prog 52 #[.agg (tokV t).toArray] w fun e w' => e = .returned (.string (bs (if t.kind = 5 then [10] else writS t))) /\ Pu w w' := by
  obtain ⟨k, a, s⟩ := t
  obtain ⟨x, rfl, hx⟩ := text_bs s
  have hxl : x.length <= 140737488355328 := by have h := ht; rw [bs_size] at h; exact h
  rw [writS_bs]
  unfold writL
  dsimp only
  refine calls_by (F52_calls _ _ _ w) fun R hR => alB fun w1 hp1 hb1 => ⟨_, cl0 hb1, ?_⟩
  refine Br.of (fun q => ⟨_, cl hb1 2, (has_c x hxl w1).mono ?_⟩) (fun q => ?_)
  · have q : k = 2 := btrue q
    rw [if_neg (by omega), if_pos q] at hR
    rintro e w2 ⟨rfl, rfl⟩
    refine ⟨_, rfl, Br.of (fun q2 => ?_) (fun q2 => ?_)⟩
    · rw [if_pos q2] at hR
      obtain ⟨z1, z2⟩ := cat1_le 39 39 x hxl
      exact ⟨_, cl hb1 2, z1, z2, hR _ _ ⟨by rw [quoted_cat], hp1⟩⟩
    · rw [if_neg (by rw [q2]; simp)] at hR
      obtain ⟨z1, z2⟩ := cat1_le 34 34 x hxl
      exact ⟨_, cl hb1 2, z1, z2, hR _ _ ⟨by rw [quoted_cat], hp1⟩⟩
  · have q : ¬ k = 2 := bfalse q
    refine Br.of (fun q2 => ⟨_, cl hb1 2, Br.of (fun q3 => ?_) (fun q3 => ?_)⟩) (fun q2 => Br.of (fun q3 => hR _ _ ⟨?_, hp1⟩) (fun q3 => ⟨_, cl hb1 2, hR _ _ ⟨?_, hp1⟩⟩))
    · have q2 : k = 3 := btrue q2
      have q3 := bntrue q3
      rw [bs_size_i] at q3
      rw [if_neg (by omega), if_neg q, if_pos q2, if_pos (by omega)] at hR
      obtain ⟨z1, z2⟩ := cat1_le 123 125 x hxl
      exact ⟨_, cl hb1 2, z1, z2, hR _ _ ⟨by rw [brace_cat], hp1⟩⟩
    · have q2 : k = 3 := btrue q2
      have q3 := bnfalse q3
      rw [bs_size_i] at q3
      have h8 : x.length = 8 := by omega
      rw [if_neg (by omega), if_neg q, if_pos q2, if_neg (by omega)] at hR
      refine dwE_intro fun w2 hp2 _ => ?_
      have hb2 := hp2.blk hb1
      have hsz : (bs x).size = 8 := by rw [bs_size]; exact h8
      obtain ⟨z1, z2, z3, z4, z5, z6⟩ := date_sizes h8
      refine ⟨_, cl hb2 2, by omega, by rw [hsz]; decide, by omega, z1, z2, _, cl hb2 2, by omega, by rw [hsz]; decide, by omega, by decide, z3, z4, _, cl hb2 2, Nat.le_refl _, by omega, by rw [hsz]; decide, z5, z6, hR _ _ ⟨?_, hp1.trans hp2⟩⟩
      rw [date_text h8]
    · rw [if_pos (btrue q3)]
    · have q2 : ¬ k = 3 := bfalse q2
      have q3 : ¬ k = 5 := bfalse q3
      rw [if_neg q3, if_neg q, if_neg q2]
end Go.Proofs.YtlogipcgejfnnaaGreatDoor

/- Lex: the text of tokens, and the source that is made of them, as both packages make it. The signs: what the library's tables of letters and of bytes lay. -/
set_option maxRecDepth 100000
set_option linter.unusedVariables false
set_option linter.unusedSimpArgs false
namespace Go.Proofs.YtlogipcgejfnnaaGreatDoor
open Go.Sh Go.Sh.Lx Go.RowKit
variable {w0 w w' : World}
abbrev Bld (b : Nat) (acc : List UInt8) (w : World) : Prop := Lib.IsBuilderF 72 5 b b (Lib.byteCells acc) w
theorem Bld.pu {b : Nat} {acc : List UInt8} (h : Bld b acc w) (hp : Pu w w') : Bld b acc w' := by
  have one : ∀ {p}, Lib.BuilderAtF 72 5 b b p (Lib.byteCells acc) w -> Lib.BuilderAtF 72 5 b b p (Lib.byteCells acc) w' := by
    rintro p ⟨hB, v, hb, ⟨hl, ho⟩, hne⟩
    refine ⟨hB, v, hp.blk hb, ⟨hl, ?_⟩, hne⟩
    rcases ho with ho | ⟨g, cap, cur, fz, h1, h2, h3, h4⟩
    · exact .inl ho
    · exact .inr ⟨g, cap, cur, fz, h1, h2, hp.blk h3, h4⟩
  exact h.elim (fun h => .inl (one h)) (fun h => .inr (one h))
theorem Bld.new {b : Nat} (hb : w.heap[b]? = some (.cells #[.pointer none, .slice none 0 0] 72)) : Bld b [] w :=
  .inl ⟨Nat.le_refl _, .slice none 0 0, hb, ⟨rfl, .inl ⟨rfl, rfl⟩⟩, by simp [Value.ownBlock]⟩
theorem writeString_c {b : Nat} {acc : List UInt8} (s : List UInt8) (h : Bld b acc w) (hl : acc.length + s.length <= 140737488355328) (hB : b <= w.heap.size) :
    Calls Tryz.prog 47 #[.pointer (some ⟨b, 0, none⟩), .string (bs s)] w fun e w' => e = .returned (.tuple #[.int .i64 (s.length : Nat), .nilIface]) /\ Bld b (acc ++ s) w' /\ Below b w w' /\ Lib.OthersKept 5 (some b) w w' := by
  refine (Any.Builder_WriteString_k Tryz.lays166 Tryz.Builder_Extra_158 b b (Lib.byteCells acc) (bs s) w h (by rw [Lib.byteCells_length, bs_size]; exact hl) hB).mono ?_
  rintro e w' ⟨rfl, h1, h2, h3⟩
  refine ⟨by rw [bs_size], ?_, h2, h3⟩
  have e1 : Lib.byteCells (acc ++ s) = Lib.byteCells acc ++ Lib.strCells (bs s) := by
    unfold Lib.byteCells Lib.strCells; rw [List.map_append, bs_list]
  unfold Bld
  rw [e1]
  exact .inr h1
theorem writeByte_c {b : Nat} {acc : List UInt8} (x : UInt8) (h : Bld b acc w) (hl : acc.length + 1 <= 140737488355328) (hB : b <= w.heap.size) :
    Calls Tryz.prog 46 #[.pointer (some ⟨b, 0, none⟩), .int .u8 ((x.toNat : Nat) : Int)] w fun e w' => e = .returned .nilIface /\ Bld b (acc ++ [x]) w' /\ Below b w w' /\ Lib.OthersKept 5 (some b) w w' := by
  refine (Any.Builder_WriteByte_k Tryz.lays167 Tryz.Builder_Extra_158 b b (Lib.byteCells acc) ((x.toNat : Nat) : Int) w h (by rw [Lib.byteCells_length]; exact hl) hB).mono ?_
  rintro e w' ⟨rfl, h1, h2, h3⟩
  refine ⟨rfl, ?_, h2, h3⟩
  have e1 : Lib.byteCells (acc ++ [x]) = Lib.byteCells acc ++ [.int .u8 ((x.toNat : Nat) : Int)] := by
    unfold Lib.byteCells; rw [List.map_append]; rfl
  unfold Bld
  rw [e1]
  exact .inr h1
theorem builderString_c {b : Nat} {acc : List UInt8} (h : Bld b acc w) (hB : b <= w.heap.size) : Calls Tryz.prog 49 #[.pointer (some ⟨b, 0, none⟩)] w fun e w' => e = .returned (.string (bs acc)) /\ Below b w w' := by
  refine (Any.Builder_String_any_k Tryz.lays169 Tryz.Builder_Extra_158 b b acc w h hB).mono ?_
  rintro e w' ⟨rfl, _, h2, _⟩
  exact ⟨rfl, h2⟩
theorem Pu.low {b : Nat} (h : Pu w0 w) (hb : w0.heap.size <= b) (k : Below b w w') : Pu w0 w' := Below.trans h (k.mono hb)
def texts (l : List Tok) : Prop := ∀ t ∈ l, t.text.size <= 140737488355328
theorem joinS_drop {g : Bool} {l : List Tok} {k : Nat} {t : Tok} (h : l[k]? = some t) : joinS g (l.drop k) = if t.kind = 5 then 10 :: joinS false (l.drop (k + 1)) else (if g then [32] else []) ++ writS t ++ joinS true (l.drop (k + 1)) := by
  rw [drop_at h]; rfl
theorem joined_c {s : SV} {l : List Tok} (hs : RdSl w0 s l) (ht : texts l) (hz : sizeT l <= 140737488355328) : Calls Tryz.prog 28 #[.slice s.a s.len s.cap] w0 fun e w' => e = .returned (.string (bs (joinS false l))) /\ Pu w0 w' := by
  have hsl := hs.len
  have hlim := hs.lim
  have hjl := joinS_len false l
  refine calls_by (F28_calls _ w0) fun R hR => alB fun w1 hp1 hb1 => ?_
  obtain ⟨b, hb⟩ : ∃ b, b = w0.heap.size := ⟨_, rfl⟩
  rw [← hb] at hb1 ⊢
  refine loopUp l.length (fun k t w' => ∃ acc, t.2 = (k : Int) /\ Pu w0 w' /\ Bld b acc w' /\ b < w'.heap.size /\ acc ++ joinS t.1 (l.drop k) = joinS false l) ⟨[], rfl, hp1, Bld.new hb1, blk_lt hb1, rfl⟩ ?_
  rintro k J ⟨g, n⟩ w2 hk ⟨acc, rfl, hp2, hB, hlt, hacc⟩ hJ
  dsimp only at hacc ⊢
  refine Br.of (fun q => ?_) (fun q => ?_)
  · have q := dtrue q
    have hk2 : k < l.length := by omega
    obtain ⟨t, htk⟩ := at_k hk2
    have htt := ht t (List.mem_of_getElem? htk)
    obtain ⟨a, ha, h1, h2, _, c0, c1, c2⟩ := RdSl.tok (hs.pu hp2) htk
    rw [joinS_drop htk] at hacc
    refine ⟨a, ha, h1, h2, _, c0, _, c1, _, c2, alB fun w3 hp3 hb3 => ?_⟩
    refine stA_fill hb3 s49.symm rfl rfl fun w4 hb4 hf4 _ => ?_
    have hb4 : TokB w4 w2.heap.size t := hb4
    have hP24 : Pu w2 w4 := Pu.andNew hp3 hf4 (fun i hi => by rw [show i = _ from hi]; exact Nat.le_refl _)
    have hB4 := hB.pu hP24
    have hP4 := hp2.trans hP24
    have hz4 := hP24.size
    rw [wrap_in (by omega) (by omega)]
    refine ⟨_, cl0 hb4, Br.of (fun q5 => ?_) (fun q5 => ?_)⟩
    · have q5 := btrue q5
      rw [if_pos q5] at hacc
      have hlen := congrArg List.length hacc
      rw [List.length_append, List.length_cons] at hlen
      refine (writeByte_c 10 hB4 (by omega) (by omega)).mono ?_
      rintro e w5 ⟨rfl, hB5, hl5, _⟩
      exact ⟨_, rfl, hJ _ _ hk2 ⟨acc ++ [10], by dsimp only; omega, Pu.low hP4 (by omega) hl5, hB5, by have := hl5.size; omega, by rw [← hacc, List.append_assoc]; rfl⟩⟩
    · have q5 := bfalse q5
      rw [if_neg q5] at hacc
      have hlen := congrArg List.length hacc
      rw [List.length_append, List.length_append, List.length_append] at hlen
      refine Br.of (fun qg => ?_) (fun qg => ?_)
      · subst qg
        have hlen : acc.length + (1 + (writS t).length + (joinS true (l.drop (k + 1))).length) = (joinS false l).length := hlen
        refine (writeByte_c 32 hB4 (by omega) (by omega)).mono ?_
        rintro e w5 ⟨rfl, hB5, hl5, ho5⟩
        have hP5 := Pu.low hP4 (by omega) hl5
        have hz5 := hl5.size
        have hb5 : TokB w5 w2.heap.size t := ho5 _ _ hb4 (by simp; omega) (fun c fz e => by cases e)
        refine ⟨_, rfl, _, cl hb5 0, _, cl hb5 1, _, cl hb5 2, (written_c t htt w5).mono ?_⟩
        rintro e w6 ⟨rfl, hp6⟩
        have hz6 := hp6.size
        refine ⟨_, rfl, (writeString_c (writS t) (hB5.pu hp6) (by simp; omega) (by omega)).mono ?_⟩
        rintro e w7 ⟨rfl, hB7, hl7, _⟩
        refine ⟨_, _, rfl, hJ _ _ hk2 ⟨_, by dsimp only; omega, Pu.low (hP5.trans hp6) (by omega) hl7, hB7, by have := hl7.size; omega, ?_⟩⟩
        rw [← hacc]; simp
      · subst qg
        have hlen : acc.length + (0 + (writS t).length + (joinS true (l.drop (k + 1))).length) = (joinS false l).length := hlen
        refine ⟨_, cl hb4 0, _, cl hb4 1, _, cl hb4 2, (written_c t htt w4).mono ?_⟩
        rintro e w6 ⟨rfl, hp6⟩
        have hz6 := hp6.size
        refine ⟨_, rfl, (writeString_c (writS t) (hB4.pu hp6) (by omega) (by omega)).mono ?_⟩
        rintro e w7 ⟨rfl, hB7, hl7, _⟩
        refine ⟨_, _, rfl, hJ _ _ hk2 ⟨_, by dsimp only; omega, Pu.low (hP4.trans hp6) (by omega) hl7, hB7, by have := hl7.size; omega, ?_⟩⟩
        rw [← hacc]; simp
  · have q := dfalse q
    rw [List.drop_eq_nil_of_le (by omega)] at hacc
    have hacc : acc = joinS false l := by rw [← hacc]; simp [joinS]
    refine (builderString_c hB (by omega)).mono ?_
    rintro e w3 ⟨rfl, hl3⟩
    exact ⟨_, rfl, hR _ _ ⟨by rw [hacc], Pu.low hp2 (by omega) hl3⟩⟩
def midB (l : List Tok) (k : Nat) : Bool := match k with
  | 0 => false
  | k + 1 => match l[k]? with
    | some t => decide (t.kind ≠ 5)
    | none => false
theorem midB_succ {l : List Tok} {k : Nat} {t : Tok} (h : l[k]? = some t) : midB l (k + 1) = decide (t.kind ≠ 5) := by
  show (match l[k]? with | some t => decide (t.kind ≠ 5) | none => false) = _
  rw [h]
theorem rjoined_c {s : SV} {l : List Tok} (hs : RdSl w0 s l) (ht : texts l) (hz : sizeT l <= 140737488355328) : Calls Tryz.prog 30 #[.slice s.a s.len s.cap] w0 fun e w' => e = .returned (.string (bs (joinS false l))) /\ Pu w0 w' := by
  have hsl := hs.len
  have hlim := hs.lim
  have hjl := joinS_len false l
  refine calls_by (F30_calls _ w0) fun R hR => ?_
  have e0 : (⟨#[]⟩ : ByteArray) = bs [] := rfl
  refine loopUp l.length (fun k t w' => ∃ acc, t = (bs acc, (k : Int)) /\ Pu w0 w' /\ acc ++ joinS (midB l k) (l.drop k) = joinS false l) ⟨[], rfl, Pu.refl _, rfl⟩ ?_
  rintro k J t w2 hk ⟨acc, rfl, hp2, hacc⟩ hJ
  dsimp only
  refine Br.of (fun q => ?_) (fun q => ?_)
  · have q := dtrue q
    have hk2 : k < l.length := by omega
    obtain ⟨t, htk⟩ := at_k hk2
    have htt := ht t (List.mem_of_getElem? htk)
    obtain ⟨a, ha, h1, h2, ck, c0, c1, c2⟩ := RdSl.tok (hs.pu hp2) htk
    rw [joinS_drop htk] at hacc
    have hmid : midB l (k + 1) = decide (t.kind ≠ 5) := midB_succ htk
    -- a token is put behind what there is
    have fin : ∀ {g : Bool} {w3 : World}, (t.kind ≠ 5 -> g = midB l k) -> (t.kind = 5 -> g = false) -> Pu w0 w3 -> Calls Tryz.prog 52 #[.agg (tokV t).toArray] w3 fun e w5 => ∃ s37 : ByteArray, e = .returned (.string s37) /\ ((((bs (acc ++ if g then [32] else [])).size + s37.size : Nat) : Int) <= 9223372036854775807 /\ F30_2 R J s (bs (acc ++ if g then [32] else []) ++ s37) (k : Int) [] w5) := fun {g w3} hg hg5 hp3 => by
      refine (rwritten_c t htt w3).mono ?_
      rintro e w4 ⟨rfl, hp4⟩
      have e1 : (acc ++ if g then [32] else []) ++ (if t.kind = 5 then [10] else writS t) ++ joinS (midB l (k + 1)) (l.drop (k + 1)) = joinS false l := by
        rw [← hacc, hmid]
        by_cases h5 : t.kind = 5
        · rw [if_pos h5, if_pos h5, hg5 h5, decide_eq_false (by simp [h5])]; simp
        · rw [if_neg h5, if_neg h5, hg h5, decide_eq_true h5]; simp
      have hlen := congrArg List.length e1
      rw [List.length_append, List.length_append] at hlen
      refine ⟨_, rfl, by rw [cat_bs]; omega, ?_⟩
      rw [bs_append]
      unfold F30_2
      rw [wrap_in (by omega) (by omega)]
      exact hJ _ _ hk2 ⟨_, by rw [show (k : Int) + 1 = ((k + 1 : Nat) : Int) by omega], hp3.trans hp4, e1⟩
    have plain : (t.kind ≠ 5 -> midB l k = false) -> ∃ a10 : Addr, s.a = some a10 /\ (0 : Int) <= (k : Int) /\ (k : Int) < ((s.len : Nat) : Int) /\
        ∃ n36_0 : Int, w2.cell? ((a10.add (((k : Int)).toNat * 3)).add 0) = some (.int .i64 n36_0) /\ ∃ n36_1 : Int, w2.cell? ((a10.add (((k : Int)).toNat * 3)).add 1) = some (.int .i64 n36_1) /\ ∃ s36_2 : ByteArray, w2.cell? ((a10.add (((k : Int)).toNat * 3)).add 2) = some (.string s36_2) /\
        Calls Tryz.prog 52 #[.agg #[.int .i64 n36_0, .int .i64 n36_1, .string s36_2]] w2 fun e w11 => ∃ s37 : ByteArray, e = .returned (.string s37) /\ (((bs acc).size + s37.size : Nat) : Int) <= 9223372036854775807 /\ F30_2 R J s (bs acc ++ s37) (k : Int) [] w11 := fun hm => by
      refine ⟨a, ha, h1, h2, _, c0, _, c1, _, c2, ?_⟩
      have := fin (g := false) (fun h => (hm h).symm) (fun _ => rfl) hp2
      simp only [Bool.false_eq_true, if_false, List.append_nil] at this
      exact this
    refine Br.of (fun q1 => ⟨a, ha, h1, h2, _, ck, Br.of (fun q2 => ?_) (fun q2 => plain fun h => absurd (bnfalse q2) h)⟩) (fun q1 => plain fun _ => ?_)
    · have q1 := dtrue q1
      have q2 : t.kind ≠ 5 := bntrue q2
      obtain ⟨j, rfl⟩ : ∃ j, k = j + 1 := ⟨k - 1, by omega⟩
      obtain ⟨t', htj⟩ := at_k (l := l) (k := j) (by omega)
      have hm : midB l (j + 1) = decide (t'.kind ≠ 5) := midB_succ htj
      obtain ⟨a', ha', g1, g2, gk, _, _, _⟩ := RdSl.tok (hs.pu hp2) htj
      rw [wrap_in (n := ((j + 1 : Nat) : Int) - 1) (by omega) (by omega), show ((j + 1 : Nat) : Int) - 1 = (j : Int) by omega]
      refine ⟨a', ha', g1, g2, _, gk, Br.of (fun q3 => ?_) (fun q3 => plain fun _ => by rw [hm]; exact decide_eq_false (by have := bnfalse q3; simp [this]))⟩
      have q3 : t'.kind ≠ 5 := bntrue q3
      have e32 : (⟨#[32]⟩ : ByteArray) = bs [32] := rfl
      rw [e32, bs_append]
      have hlen := congrArg List.length hacc
      rw [List.length_append] at hlen
      refine ⟨by rw [cat_bs, List.length_singleton]; omega, a, ha, h1, h2, _, c0, _, c1, _, c2, ?_⟩
      have := fin (g := true) (fun _ => by rw [hm]; exact (decide_eq_true q3).symm) (fun h => absurd h q2) hp2
      simp only [if_true] at this
      exact this
    · have q1 := dfalse q1
      obtain rfl : k = 0 := by omega
      rfl
  · have q := dfalse q
    rw [List.drop_eq_nil_of_le (by omega)] at hacc
    have hacc : acc = joinS false l := by rw [← hacc]; simp [joinS]
    exact hR _ _ ⟨by rw [hacc], hp2⟩
def joinF (l : List Tok) : List UInt8 × Int := if (lexF (joinS false l)).2.2 ≠ 0 then ([], (lexF (joinS false l)).2.2) else if sameS (lexF (joinS false l)).1 l = false then ([], 1) else (joinS false l, 0)
theorem join_c (hL : Laid w) {s : SV} {l : List Tok} (hs : RdSl w s l) (ht : texts l) (hz : sizeT l <= 140737488355328) : Calls Tryz.prog 13 #[.slice s.a s.len s.cap] w fun e w' => e = .returned (.tuple #[.string (bs (joinF l).1), .int .i64 (joinF l).2]) /\ Pu w w' := by
  have hjl := joinS_len false l
  refine calls_by (F13_calls _ w) fun R hR => (joined_c hs ht hz).mono ?_
  rintro e w1 ⟨rfl, hp1⟩
  refine ⟨_, rfl, (lex_c (hL.pu hp1) (joinS false l) (by omega)).mono ?_⟩
  rintro e w2 ⟨hp2, t, rfl, hrd⟩
  have hp := hp1.trans hp2
  refine ⟨t, _, _, rfl, Br.of (fun q => hR _ _ ⟨?_, hp⟩) (fun q => (same_c hrd (hs.pu hp)).mono ?_)⟩
  · unfold joinF; rw [if_pos (bntrue q)]
  · rintro e w3 ⟨rfl, hp3⟩
    have q := bnfalse q
    refine ⟨_, rfl, Br.of (fun q2 => hR _ _ ⟨?_, hp.trans hp3⟩) (fun q2 => hR _ _ ⟨?_, hp.trans hp3⟩)⟩
    · unfold joinF; rw [if_neg (by simp [q]), if_pos (by simpa using q2)]
    · unfold joinF; have q2 : sameS (lexF (joinS false l)).1 l = true := by simpa using q2
      rw [if_neg (by simp [q]), if_neg (by simp [q2])]
theorem rjoin_c {s : SV} {l : List Tok} (hs : RdSl w s l) (ht : texts l) (hz : sizeT l <= 140737488355328) : Calls Tryz.prog 14 #[.slice s.a s.len s.cap] w fun e w' => e = .returned (.tuple #[.string (bs (joinF l).1), .int .i64 (joinF l).2]) /\ Pu w w' := by
  have hjl := joinS_len false l
  refine calls_by (F14_calls _ w) fun R hR => (rjoined_c hs ht hz).mono ?_
  rintro e w1 ⟨rfl, hp1⟩
  refine ⟨_, rfl, (rlex_c (joinS false l) (by omega)).mono ?_⟩
  rintro e w2 ⟨hp2, t, rfl, hrd⟩
  have hp := hp1.trans hp2
  refine ⟨t, _, _, rfl, Br.of (fun q => hR _ _ ⟨?_, hp⟩) (fun q => (rsame_c hrd (hs.pu hp)).mono ?_)⟩
  · unfold joinF; rw [if_pos (bntrue q)]
  · rintro e w3 ⟨rfl, hp3⟩
    have q := bnfalse q
    refine ⟨_, rfl, Br.of (fun q2 => hR _ _ ⟨?_, hp.trans hp3⟩) (fun q2 => hR _ _ ⟨?_, hp.trans hp3⟩)⟩
    · unfold joinF; rw [if_neg (by simp [q]), if_pos (by simpa using q2)]
    · unfold joinF; have q2 : sameS (lexF (joinS false l)).1 l = true := by simpa using q2
      rw [if_neg (by simp [q]), if_neg (by simp [q2])]
end Go.Proofs.YtlogipcgejfnnaaGreatDoor

/- Lex: the source that the statements look at first: its tokens, and the source of these. The signs: the library's tables of letters and of bytes. -/
set_option maxRecDepth 100000
set_option linter.unusedVariables false
set_option linter.unusedSimpArgs false
namespace Go.Proofs.YtlogipcgejfnnaaGreatDoor
open Go.Sh Go.Sh.Lx Go.RowKit
variable {w0 w w' : World}
def lexN : Nat -> List UInt8 -> Nat -> Bool -> Option LexOut
  | 0, _, _, _ => none
  | _ + 1, [], p, line => some (if line then [endT p] else [], none)
  | n + 1, b :: r, p, line => match stepS b r line with
    | .go m => lexN n (r.drop m) (p + 1 + m) line
    | .eol => (lexN n r (p + 1) false).map fun o => ((if line then [endT p] else []) ++ o.1, o.2)
    | .tok k t m => (lexN n (r.drop m) (p + 1 + m) true).map fun o => (⟨k, (p : Int), bs t⟩ :: o.1, o.2)
    | .bad i => some ([], some (p + i))
theorem lexN_ok : ∀ (n : Nat) (l : List UInt8) (p : Nat) (line : Bool) (o : LexOut), lexN n l p line = some o -> lexS l p line = o
  | 0, _, _, _, _, h => by cases h
  | n + 1, [], p, line, o, h => by rw [lexS_nil]; exact Option.some.inj h
  | n + 1, b :: r, p, line, o, h => by
    have h : (match stepS b r line with
      | .go m => lexN n (r.drop m) (p + 1 + m) line
      | .eol => (lexN n r (p + 1) false).map fun o => ((if line then [endT p] else []) ++ o.1, o.2)
      | .tok k t m => (lexN n (r.drop m) (p + 1 + m) true).map fun o => (⟨k, (p : Int), bs t⟩ :: o.1, o.2)
      | .bad i => some ([], some (p + i))) = some o := h
    cases hs : stepS b r line with
    | go m => rw [hs] at h; rw [lexS_go hs]; exact lexN_ok n _ _ _ _ h
    | eol =>
      rw [hs] at h
      obtain ⟨o', ho, rfl⟩ := Option.map_eq_some_iff.1 h
      rw [lexS_eol hs, lexN_ok n _ _ _ _ ho]
    | tok k t m =>
      rw [hs] at h
      obtain ⟨o', ho, rfl⟩ := Option.map_eq_some_iff.1 h
      rw [lexS_tok hs, lexN_ok n _ _ _ _ ho]
    | bad i => rw [hs] at h; rw [lexS_bad hs]; exact Option.some.inj h
def srcK : List UInt8 := [120, 32, 61, 32, 49, 32, 59, 32, 38, 38, 32, 97, 10, 43, 32, 50]
def srcJ : List UInt8 := [88, 32, 61, 32, 49, 32, 43, 32, 50, 10]
def toksK : List Tok := [⟨0, 0, bs [88]⟩, ⟨4, 2, bs [61]⟩, ⟨1, 4, bs [49]⟩, ⟨4, 13, bs [43]⟩, ⟨1, 15, bs [50]⟩, endT 16]
def toksJ : List Tok := [⟨0, 0, bs [88]⟩, ⟨4, 2, bs [61]⟩, ⟨1, 4, bs [49]⟩, ⟨4, 6, bs [43]⟩, ⟨1, 8, bs [50]⟩, endT 9]
theorem lexK : lexS srcK 0 false = (toksK, none) := lexN_ok 20 _ _ _ _ (by decide +kernel)
theorem lexJ : lexS srcJ 0 false = (toksJ, none) := lexN_ok 20 _ _ _ _ (by decide +kernel)
theorem lexF_of {d : List UInt8} {l : List Tok} (hd : d.length <= 4000) (h : lexS d 0 false = (l, none)) (hl : l.length <= 1200) : lexF d = (l, ((l.length : Nat) : Int), 0) := by
  unfold lexF
  rw [if_neg (by omega), h]
  dsimp only
  rw [if_neg (by omega)]
theorem lexF_K : lexF srcK = (toksK, 6, 0) := lexF_of (by decide) lexK (by decide)
theorem lexF_J : lexF srcJ = (toksJ, 6, 0) := lexF_of (by decide) lexJ (by decide)
theorem join_K : joinS false toksK = srcJ := by decide +kernel
theorem joinF_K : joinF toksK = (srcJ, 0) := by
  unfold joinF
  rw [join_K, lexF_J, if_neg (by decide), if_neg (by have : sameS toksJ toksK = true := by decide +kernel
                                                     simp [this])]
theorem textsK : texts toksK := by unfold texts; decide +kernel
theorem known_c (hL : Laid w) : Calls Tryz.prog 8 #[] w fun e w' => e = .returned (.bool true) /\ Pu w w' := by
  refine calls_by (F8_calls w) fun R hR => (lex_c hL srcK (by decide)).mono ?_
  rintro e w1 ⟨hp1, s, rfl, hrd⟩
  rw [lexF_K] at hrd ⊢
  refine ⟨s, _, _, rfl, (join_c (hL.pu hp1) hrd textsK (by decide +kernel)).mono ?_⟩
  rintro e w2 ⟨rfl, hp2⟩
  rw [joinF_K]
  refine ⟨_, _, rfl, ?_⟩
  refine hR _ _ ⟨?_, hp1.trans hp2⟩
  rw [show (⟨#[88, 32, 61, 32, 49, 32, 43, 32, 50, 10]⟩ : ByteArray) = bs srcJ from rfl, beq_self_eq_true]
end Go.Proofs.YtlogipcgejfnnaaGreatDoor

/- Lex: which tokens a source has: that the statement answers true. The signs: the library's tables of letters and of bytes. -/
set_option maxRecDepth 100000
set_option linter.unusedVariables false
set_option linter.unusedSimpArgs false
namespace Go.Proofs.YtlogipcgejfnnaaGreatDoor
open Go.Sh Go.Sh.Lx Go.RowKit
variable {w0 w w' : World}
end Go.Proofs.YtlogipcgejfnnaaGreatDoor

/- Lex: how long the texts of tokens are, and that the last token ends a line; a part of a list of tokens. No condition. -/
set_option maxRecDepth 100000
set_option linter.unusedVariables false
set_option linter.unusedSimpArgs false
namespace Go.Proofs.YtlogipcgejfnnaaGreatDoor
open Go.Sh Go.Sh.Lx Go.RowKit
variable {w0 w w' : World}
end Go.Proofs.YtlogipcgejfnnaaGreatDoor

/- Lex: the source of tokens: that the statement answers true where the tokens' texts are no longer than two million bytes together. The signs: the library's tables of letters and of bytes. -/
set_option maxRecDepth 100000
set_option linter.unusedVariables false
set_option linter.unusedSimpArgs false
namespace Go.Proofs.YtlogipcgejfnnaaGreatDoor
open Go.Sh Go.Sh.Lx Go.RowKit
variable {w0 w w' : World}
def bulkT (l : List Tok) : Nat := (l.map fun t => t.text.size + 1).sum
theorem bulkT_take {l : List Tok} {k : Nat} {t : Tok} (h : l[k]? = some t) : bulkT (l.take (k + 1)) = bulkT (l.take k) + (t.text.size + 1) := by
  rw [take_at h]; unfold bulkT; rw [List.map_append, List.sum_append]; simp
theorem bulkT_le : ∀ (l : List Tok), l.length <= bulkT l /\ sizeT l <= 6 * bulkT l /\ ∀ t ∈ l, t.text.size <= bulkT l
  | [] => by simp [bulkT, sizeT]
  | x :: r => by
    obtain ⟨h1, h2, h3⟩ := bulkT_le r
    unfold bulkT sizeT at *
    rw [List.map_cons, List.sum_cons, List.map_cons, List.sum_cons, List.length_cons]
    refine ⟨by omega, by omega, fun t ht => ?_⟩
    rcases List.mem_cons.1 ht with rfl | h
    · omega
    · have := h3 t h; omega
theorem bulkT_mono (l : List Tok) (k : Nat) : bulkT (l.take k) <= bulkT l := by
  have h : bulkT l = bulkT (l.take k) + bulkT (l.drop k) := by
    unfold bulkT
    rw [← List.sum_append, ← List.map_append, List.take_append_drop]
  omega
theorem over_c {s : SV} {l : List Tok} (hs : RdSl w s l) (hb : bulkT l <= 2097152) : Calls Tryz.prog 12 #[.slice s.a s.len s.cap] w fun e w' => e = .returned (.bool (decide (20000 < bulkT l))) /\ Pu w w' := by
  have hsl := hs.len
  have hll := (bulkT_le l).1
  refine calls_by (F12_calls _ w) fun R hR => ?_
  have hstart : ((s.len : Nat) : Int) = ((l.length - 0 + bulkT (l.take 0) : Nat) : Int) := by simp [bulkT]; omega
  refine loopUp l.length (fun k t w' => t = (((l.length - k + bulkT (l.take k) : Nat) : Int), (k : Int)) /\ w' = w) ⟨by rw [hstart]; rfl, rfl⟩ ?_
  rintro k J t w1 hk ⟨rfl, rfl⟩ hJ
  dsimp only
  have hm := bulkT_mono l k
  refine Br.of (fun q => ?_) (fun q => ?_)
  · have q := dtrue q
    have hk2 : k < l.length := by omega
    obtain ⟨t, htk⟩ := at_k hk2
    obtain ⟨a, ha, h1, h2, _, _, _, c2⟩ := RdSl.tok hs htk
    have h3 := bulkT_take htk
    have h4 := bulkT_mono l (k + 1)
    refine ⟨a, ha, h1, h2, _, c2, ?_⟩
    rw [wrap_in (by omega) (by omega), wrap_in (by omega) (by omega)]
    exact hJ _ _ hk2 ⟨Prod.ext (by show (_ : Int) = _; omega) (by show (_ : Int) = _; omega), rfl⟩
  · have q := dfalse q
    have hkn : k = l.length := by omega
    subst hkn
    rw [List.take_length]
    refine hR _ _ ⟨?_, Pu.refl _⟩
    congr 2
    exact dec_eq (by omega)
theorem joins_c (w : World) (hL : Laid w) {s : SV} {l : List Tok} (hs : RdSl w s l) (hb : bulkT l <= 2097152) : Calls Tryz.prog 4 #[.slice s.a s.len s.cap] w fun e w' => e = .returned (.bool true) /\ Pu w w' := by
  obtain ⟨h1, h2, h3⟩ := bulkT_le l
  have htx : texts l := fun t ht => by have := h3 t ht; omega
  refine calls_by (F4_calls _ w) fun R hR => (over_c hs hb).mono ?_
  rintro e w1 ⟨rfl, hp1⟩
  refine ⟨_, rfl, Br.of (fun _ => ?_) (fun _ => ?_)⟩
  · refine (known_c (hL.pu hp1)).mono ?_
    rintro e w2 ⟨rfl, hp⟩
    exact ⟨_, rfl, hR _ _ ⟨rfl, hp1.trans hp⟩⟩
  · refine (join_c (hL.pu hp1) (hs.pu hp1) htx (by omega)).mono ?_
    rintro e w2 ⟨rfl, hp2⟩
    have hP2 := hp1.trans hp2
    refine ⟨_, _, rfl, (rjoin_c (hs.pu hP2) htx (by omega)).mono ?_⟩
    rintro e w3 ⟨rfl, hp3⟩
    have hP3 := hP2.trans hp3
    refine ⟨_, _, rfl, ?_⟩
    rw [toList_beq]
    refine Br.of (fun _ => Br.of (fun _ => (known_c (hL.pu hP3)).mono ?_) (fun q => absurd rfl (bfalse q))) (fun q => by simp at q)
    rintro e w4 ⟨rfl, hp4⟩
    exact ⟨_, rfl, hR _ _ ⟨rfl, hP3.trans hp4⟩⟩
end Go.Proofs.YtlogipcgejfnnaaGreatDoor

/- Lex: how much data tokens are that are handed in. No condition. -/
set_option maxRecDepth 100000
set_option linter.unusedVariables false
namespace Go.Proofs.YtlogipcgejfnnaaGreatDoor
open Go.ChangeShapes Go.WideShapes Go.ChangeAt Go.RowKit Go.Sh Go.Sh.Lx
theorem bulk_mem {H : Type} : ∀ {ds : List (DataW H)} {i : Nat} {d : DataW H}, ds[i]? = some d -> Rows.uptoBulk d <= Rows.uptoBulkAll ds
  | [], _, _, h => by simp at h
  | x :: r, 0, d, h => by
    have h : x = d := by simpa using h
    rw [Rows.uptoBulkAll, h]; omega
  | x :: r, i + 1, d, h => by
    have := bulk_mem (ds := r) (i := i) (d := d) (by simpa using h)
    rw [Rows.uptoBulkAll]; omega
theorem bulk_append {H : Type} : ∀ (a b : List (DataW H)), Rows.uptoBulkAll (a ++ b) = Rows.uptoBulkAll a + Rows.uptoBulkAll b
  | [], b => by rw [List.nil_append, Rows.uptoBulkAll]; omega
  | x :: r, b => by rw [List.cons_append, Rows.uptoBulkAll, Rows.uptoBulkAll, bulk_append r b]; omega
theorem tok_bulk {H : Type} {enc : TypeId × Value -> H} {w : World} {base : Nat} {sp : Nat -> Bool} {held : Bool} {fuel : Nat} {t : Tok} {x : DataW H × List MemPlace} (h : DataW.trod enc Tryz.prog w base sp held fuel 49 (tokV t) = some x) : t.text.size + 1 <= Rows.uptoBulk x.1 := by
  have hf : fieldsOf Tryz.prog 49 = some [(3, 0), (3, 1), (9, 2)] := by kernel_rfl
  unfold fieldsOf at hf
  split at hf
  case h_2 => cases hf
  rename_i fs hu
  have hf : fs.toList.map (fun f => (f.type, f.offset)) = [(3, 0), (3, 1), (9, 2)] := Option.some.inj hf
  obtain ⟨xs, n, _, rfl, hlen, hxl, hxs⟩ := DataW.trod_struct hu h
  have hfl : fs.size = 3 := by have := congrArg List.length hf; simpa using this
  obtain ⟨f, hfi⟩ : ∃ f, fs[2]? = some f := ⟨_, Array.getElem?_eq_getElem (by omega)⟩
  have e1 : (f.type, f.offset) = (9, 2) := by
    have h1 := congrArg (·[2]?) hf
    simp only [List.getElem?_map, Array.getElem?_toList, hfi] at h1
    exact Option.some.inj h1
  have hk := hxs 2 f hfi
  have c9 : Tryz.prog.cellsOf 9 = 1 := by kernel_rfl
  rw [(Prod.mk.inj e1).1, (Prod.mk.inj e1).2, c9] at hk
  have hk : DataW.trod enc Tryz.prog w base sp held n 9 [.string t.text] = xs[2]? := hk
  obtain ⟨y, hy⟩ : ∃ y, xs[2]? = some y := ⟨_, List.getElem?_eq_getElem (by omega)⟩
  rw [hy] at hk
  obtain ⟨s, hs, hys, _⟩ := DataW.trod_string (by kernel_rfl) hk
  have hs : t.text = s := by simpa using hs
  have h1 : Rows.uptoBulk y.1 = t.text.size + 1 := by
    rw [hys, ← hs]
    show Rows.uptoBulk (.lit (.string t.text.data.toList)) = _
    rw [Rows.uptoBulk, size_list]
  have h2 := bulk_mem (ds := xs.map (·.1)) (i := 2) (d := y.1) (by rw [List.getElem?_map, hy]; rfl)
  show _ <= Rows.uptoBulk (.agg (xs.map (·.1)))
  rw [Rows.uptoBulk]; omega
theorem toks_bulk {H : Type} {enc : TypeId × Value -> H} {w : World} {base : Nat} {sp : Nat -> Bool} {held : Bool} {fuel : Nat} {s : SV} {l : List Tok} {x : DataW H × List MemPlace} (h : DataW.trod enc Tryz.prog w base sp held fuel 23 [.slice s.a s.len s.cap] = some x) (hr : RdSl w s l) : bulkT l <= Rows.uptoBulk x.1 := by
  have hlen := hr.len
  rcases DataW.trod_slice (e := 49) (by kernel_rfl) h with ⟨hc, hx'⟩ | ⟨a', len, cap, el, rs, m, rfl, hc0, hx', _, hlc, _, hel, helem, hsp, _⟩
  · have h0 : s.len = 0 := by simp at hc; exact hc.2.1
    have : l = [] := List.eq_nil_of_length_eq_zero (by omega)
    rw [this]; simp [bulkT]
  · simp only [List.cons.injEq, Value.slice.injEq, and_true] at hc0
    obtain ⟨ha', rfl, rfl⟩ := hc0
    have c49 : Tryz.prog.cellsOf 49 = 3 := by kernel_rfl
    rw [c49] at helem
    rw [hx']
    have key : ∀ k, k <= s.len -> bulkT (l.take k) <= Rows.uptoBulkAll ((el.map (·.1)).take k) := by
      intro k
      induction k with
      | zero => intro _; simp [bulkT]
      | succ k ih =>
        intro hk
        obtain ⟨t, ht⟩ := at_k (l := l) (k := k) (by omega)
        obtain ⟨b, hb⟩ := at_k (l := el) (k := k) (by omega)
        have h1 := helem k (by omega)
        rw [hb] at h1
        obtain ⟨ce, hce, hte⟩ := Option.bind_eq_some_iff.1 h1
        obtain ⟨_, hl3, hcc⟩ := World.cells?_some hce
        obtain ⟨a, ha, vs, ⟨rfl, _⟩, hcs⟩ := hr.get k t ht
        rw [ha'] at ha
        obtain rfl : a' = a := Option.some.inj ha
        have hcs : CellsAt w (a'.add (k * 3)) (tokV t) := hcs
        have ec : ce = tokV t := by
          apply List.ext_getElem?
          intro j
          by_cases hj : j < 3
          · obtain ⟨v, hv⟩ := at_k (l := tokV t) (k := j) hj
            rw [hv, ← hcc j hj]
            exact hcs j v hv
          · rw [List.getElem?_eq_none (by omega), List.getElem?_eq_none (by show 3 <= j; omega)]
        rw [ec] at hte
        have h4 := tok_bulk hte
        have ih := ih (by omega)
        have hbm : (el.map (·.1))[k]? = some b.1 := by rw [List.getElem?_map, hb]; rfl
        rw [bulkT_take ht, take_at hbm, bulk_append]
        rw [show Rows.uptoBulkAll [b.1] = Rows.uptoBulk b.1 by rw [Rows.uptoBulkAll, Rows.uptoBulkAll]; omega]
        omega
    have h5 := key s.len (Nat.le_refl _)
    rw [hlen, List.take_length, List.take_of_length_le (by simp; omega)] at h5
    show _ <= Rows.uptoBulk (.slice (el.map (·.1)) _)
    rw [Rows.uptoBulk]; omega
end Go.Proofs.YtlogipcgejfnnaaGreatDoor
