import Derived.Test.YtlogipcgejfnnaaGreatDoorLxOwC
import Derived.Test.YtlogipcgejfnnaaGreatDoorLxPrB
import Derived.Shelf.Strings.Count
/- Lex: the text of tokens, and the source that is made of them, as both packages make it. The signs: what the library's tables of letters and of bytes lay. -/
set_option maxRecDepth 100000
set_option linter.unusedVariables false
set_option linter.unusedSimpArgs false
namespace Go.Proofs.YtlogipcgejfnnaaGreatDoor
open Go.Sh Go.Sh.Lx Go.RowKit
variable {w0 w w' : World}
abbrev Bld (b : Nat) (acc : List UInt8) (w : World) : Prop := Lib.IsBuilderF 72 5 b b (Lib.byteCells acc) w
theorem Bld.pu {b : Nat} {acc : List UInt8} (h : Bld b acc w) (hp : Pu w w') : Bld b acc w' := by
  have one : ∀ {p}, Lib.BuilderAtF 72 5 b b p (Lib.byteCells acc) w -> Lib.BuilderAtF 72 5 b b p (Lib.byteCells acc) w' := by
    rintro p ⟨hB, v, hb, ⟨hl, ho⟩, hne⟩
    refine ⟨hB, v, hp.blk hb, ⟨hl, ?_⟩, hne⟩
    rcases ho with ho | ⟨g, cap, cur, fz, h1, h2, h3, h4⟩
    · exact .inl ho
    · exact .inr ⟨g, cap, cur, fz, h1, h2, hp.blk h3, h4⟩
  exact h.elim (fun h => .inl (one h)) (fun h => .inr (one h))
theorem Bld.new {b : Nat} (hb : w.heap[b]? = some (.cells #[.pointer none, .slice none 0 0] 72)) : Bld b [] w :=
  .inl ⟨Nat.le_refl _, .slice none 0 0, hb, ⟨rfl, .inl ⟨rfl, rfl⟩⟩, by simp [Value.ownBlock]⟩
theorem writeString_c {b : Nat} {acc : List UInt8} (s : List UInt8) (h : Bld b acc w) (hl : acc.length + s.length <= 140737488355328) (hB : b <= w.heap.size) :
    Calls Tryz.prog 47 #[.pointer (some ⟨b, 0, none⟩), .string (bs s)] w fun e w' => e = .returned (.tuple #[.int .i64 (s.length : Nat), .nilIface]) /\ Bld b (acc ++ s) w' /\ Below b w w' /\ Lib.OthersKept 5 (some b) w w' := by
  refine (Any.Builder_WriteString_k Tryz.lays166 Tryz.Builder_Extra_158 b b (Lib.byteCells acc) (bs s) w h (by rw [Lib.byteCells_length, bs_size]; exact hl) hB).mono ?_
  rintro e w' ⟨rfl, h1, h2, h3⟩
  refine ⟨by rw [bs_size], ?_, h2, h3⟩
  have e1 : Lib.byteCells (acc ++ s) = Lib.byteCells acc ++ Lib.strCells (bs s) := by
    unfold Lib.byteCells Lib.strCells; rw [List.map_append, bs_list]
  unfold Bld
  rw [e1]
  exact .inr h1
theorem writeByte_c {b : Nat} {acc : List UInt8} (x : UInt8) (h : Bld b acc w) (hl : acc.length + 1 <= 140737488355328) (hB : b <= w.heap.size) :
    Calls Tryz.prog 46 #[.pointer (some ⟨b, 0, none⟩), .int .u8 ((x.toNat : Nat) : Int)] w fun e w' => e = .returned .nilIface /\ Bld b (acc ++ [x]) w' /\ Below b w w' /\ Lib.OthersKept 5 (some b) w w' := by
  refine (Any.Builder_WriteByte_k Tryz.lays167 Tryz.Builder_Extra_158 b b (Lib.byteCells acc) ((x.toNat : Nat) : Int) w h (by rw [Lib.byteCells_length]; exact hl) hB).mono ?_
  rintro e w' ⟨rfl, h1, h2, h3⟩
  refine ⟨rfl, ?_, h2, h3⟩
  have e1 : Lib.byteCells (acc ++ [x]) = Lib.byteCells acc ++ [.int .u8 ((x.toNat : Nat) : Int)] := by
    unfold Lib.byteCells; rw [List.map_append]; rfl
  unfold Bld
  rw [e1]
  exact .inr h1
theorem builderString_c {b : Nat} {acc : List UInt8} (h : Bld b acc w) (hB : b <= w.heap.size) : Calls Tryz.prog 49 #[.pointer (some ⟨b, 0, none⟩)] w fun e w' => e = .returned (.string (bs acc)) /\ Below b w w' := by
  refine (Any.Builder_String_any_k Tryz.lays169 Tryz.Builder_Extra_158 b b acc w h hB).mono ?_
  rintro e w' ⟨rfl, _, h2, _⟩
  exact ⟨rfl, h2⟩
theorem Pu.low {b : Nat} (h : Pu w0 w) (hb : w0.heap.size <= b) (k : Below b w w') : Pu w0 w' := Below.trans h (k.mono hb)
def texts (l : List Tok) : Prop := ∀ t ∈ l, t.text.size <= 140737488355328
theorem joinS_drop {g : Bool} {l : List Tok} {k : Nat} {t : Tok} (h : l[k]? = some t) : joinS g (l.drop k) = if t.kind = 5 then 10 :: joinS false (l.drop (k + 1)) else (if g then [32] else []) ++ writS t ++ joinS true (l.drop (k + 1)) := by
  rw [drop_at h]; rfl
theorem joined_c {s : SV} {l : List Tok} (hs : RdSl w0 s l) (ht : texts l) (hz : sizeT l <= 140737488355328) : Calls Tryz.prog 28 #[.slice s.a s.len s.cap] w0 fun e w' => e = .returned (.string (bs (joinS false l))) /\ Pu w0 w' := by
  have hsl := hs.len
  have hlim := hs.lim
  have hjl := joinS_len false l
  refine calls_by (F28_calls _ w0) fun R hR => alB fun w1 hp1 hb1 => ?_
  obtain ⟨b, hb⟩ : ∃ b, b = w0.heap.size := ⟨_, rfl⟩
  rw [← hb] at hb1 ⊢
  refine loopUp l.length (fun k t w' => ∃ acc, t.2 = (k : Int) /\ Pu w0 w' /\ Bld b acc w' /\ b < w'.heap.size /\ acc ++ joinS t.1 (l.drop k) = joinS false l) ⟨[], rfl, hp1, Bld.new hb1, blk_lt hb1, rfl⟩ ?_
  rintro k J ⟨g, n⟩ w2 hk ⟨acc, rfl, hp2, hB, hlt, hacc⟩ hJ
  dsimp only at hacc ⊢
  refine Br.of (fun q => ?_) (fun q => ?_)
  · have q := dtrue q
    have hk2 : k < l.length := by omega
    obtain ⟨t, htk⟩ := at_k hk2
    have htt := ht t (List.mem_of_getElem? htk)
    obtain ⟨a, ha, h1, h2, _, c0, c1, c2⟩ := RdSl.tok (hs.pu hp2) htk
    rw [joinS_drop htk] at hacc
    refine ⟨a, ha, h1, h2, _, c0, _, c1, _, c2, alB fun w3 hp3 hb3 => ?_⟩
    refine stA_fill hb3 s49.symm rfl rfl fun w4 hb4 hf4 _ => ?_
    have hb4 : TokB w4 w2.heap.size t := hb4
    have hP24 : Pu w2 w4 := Pu.andNew hp3 hf4 (fun i hi => by rw [show i = _ from hi]; exact Nat.le_refl _)
    have hB4 := hB.pu hP24
    have hP4 := hp2.trans hP24
    have hz4 := hP24.size
    rw [wrap_in (by omega) (by omega)]
    refine ⟨_, cl0 hb4, Br.of (fun q5 => ?_) (fun q5 => ?_)⟩
    · have q5 := btrue q5
      rw [if_pos q5] at hacc
      have hlen := congrArg List.length hacc
      rw [List.length_append, List.length_cons] at hlen
      refine (writeByte_c 10 hB4 (by omega) (by omega)).mono ?_
      rintro e w5 ⟨rfl, hB5, hl5, _⟩
      exact ⟨_, rfl, hJ _ _ hk2 ⟨acc ++ [10], by dsimp only; omega, Pu.low hP4 (by omega) hl5, hB5, by have := hl5.size; omega, by rw [← hacc, List.append_assoc]; rfl⟩⟩
    · have q5 := bfalse q5
      rw [if_neg q5] at hacc
      have hlen := congrArg List.length hacc
      rw [List.length_append, List.length_append, List.length_append] at hlen
      refine Br.of (fun qg => ?_) (fun qg => ?_)
      · subst qg
        have hlen : acc.length + (1 + (writS t).length + (joinS true (l.drop (k + 1))).length) = (joinS false l).length := hlen
        refine (writeByte_c 32 hB4 (by omega) (by omega)).mono ?_
        rintro e w5 ⟨rfl, hB5, hl5, ho5⟩
        have hP5 := Pu.low hP4 (by omega) hl5
        have hz5 := hl5.size
        have hb5 : TokB w5 w2.heap.size t := ho5 _ _ hb4 (by simp; omega) (fun c fz e => by cases e)
        refine ⟨_, rfl, _, cl hb5 0, _, cl hb5 1, _, cl hb5 2, (written_c t htt w5).mono ?_⟩
        rintro e w6 ⟨rfl, hp6⟩
        have hz6 := hp6.size
        refine ⟨_, rfl, (writeString_c (writS t) (hB5.pu hp6) (by simp; omega) (by omega)).mono ?_⟩
        rintro e w7 ⟨rfl, hB7, hl7, _⟩
        refine ⟨_, _, rfl, hJ _ _ hk2 ⟨_, by dsimp only; omega, Pu.low (hP5.trans hp6) (by omega) hl7, hB7, by have := hl7.size; omega, ?_⟩⟩
        rw [← hacc]; simp
      · subst qg
        have hlen : acc.length + (0 + (writS t).length + (joinS true (l.drop (k + 1))).length) = (joinS false l).length := hlen
        refine ⟨_, cl hb4 0, _, cl hb4 1, _, cl hb4 2, (written_c t htt w4).mono ?_⟩
        rintro e w6 ⟨rfl, hp6⟩
        have hz6 := hp6.size
        refine ⟨_, rfl, (writeString_c (writS t) (hB4.pu hp6) (by omega) (by omega)).mono ?_⟩
        rintro e w7 ⟨rfl, hB7, hl7, _⟩
        refine ⟨_, _, rfl, hJ _ _ hk2 ⟨_, by dsimp only; omega, Pu.low (hP4.trans hp6) (by omega) hl7, hB7, by have := hl7.size; omega, ?_⟩⟩
        rw [← hacc]; simp
  · have q := dfalse q
    rw [List.drop_eq_nil_of_le (by omega)] at hacc
    have hacc : acc = joinS false l := by rw [← hacc]; simp [joinS]
    refine (builderString_c hB (by omega)).mono ?_
    rintro e w3 ⟨rfl, hl3⟩
    exact ⟨_, rfl, hR _ _ ⟨by rw [hacc], Pu.low hp2 (by omega) hl3⟩⟩
def joinF (l : List Tok) : List UInt8 × Int := if (lexF (joinS false l)).2.2 ≠ 0 then ([], (lexF (joinS false l)).2.2) else if sameS (lexF (joinS false l)).1 l = false then ([], 1) else (joinS false l, 0)
theorem join_c (hL : Laid w) {s : SV} {l : List Tok} (hs : RdSl w s l) (ht : texts l) (hz : sizeT l <= 140737488355328) : Calls Tryz.prog 13 #[.slice s.a s.len s.cap] w fun e w' => e = .returned (.tuple #[.string (bs (joinF l).1), .int .i64 (joinF l).2]) /\ Pu w w' := by
  have hjl := joinS_len false l
  refine calls_by (F13_calls _ w) fun R hR => (joined_c hs ht hz).mono ?_
  rintro e w1 ⟨rfl, hp1⟩
  refine ⟨_, rfl, (lex_c (hL.pu hp1) (joinS false l) (by omega)).mono ?_⟩
  rintro e w2 ⟨hp2, t, rfl, hrd⟩
  have hp := hp1.trans hp2
  refine ⟨t, _, _, rfl, Br.of (fun q => hR _ _ ⟨?_, hp⟩) (fun q => (same_c hrd (hs.pu hp)).mono ?_)⟩
  · unfold joinF; rw [if_pos (bntrue q)]
  · rintro e w3 ⟨rfl, hp3⟩
    have q := bnfalse q
    refine ⟨_, rfl, Br.of (fun q2 => hR _ _ ⟨?_, hp.trans hp3⟩) (fun q2 => hR _ _ ⟨?_, hp.trans hp3⟩)⟩
    · unfold joinF; rw [if_neg (by simp [q]), if_pos (by simpa using q2)]
    · unfold joinF; have q2 : sameS (lexF (joinS false l)).1 l = true := by simpa using q2
      rw [if_neg (by simp [q]), if_neg (by simp [q2])]
end Go.Proofs.YtlogipcgejfnnaaGreatDoor

/- Lex: the source that the statements look at first: its tokens, and the source of these. The signs: the library's tables of letters and of bytes. -/
set_option maxRecDepth 100000
set_option linter.unusedVariables false
set_option linter.unusedSimpArgs false
namespace Go.Proofs.YtlogipcgejfnnaaGreatDoor
open Go.Sh Go.Sh.Lx Go.RowKit
variable {w0 w w' : World}
def lexN : Nat -> List UInt8 -> Nat -> Bool -> Option LexOut
  | 0, _, _, _ => none
  | _ + 1, [], p, line => some (if line then [endT p] else [], none)
  | n + 1, b :: r, p, line => match stepS b r line with
    | .go m => lexN n (r.drop m) (p + 1 + m) line
    | .eol => (lexN n r (p + 1) false).map fun o => ((if line then [endT p] else []) ++ o.1, o.2)
    | .tok k t m => (lexN n (r.drop m) (p + 1 + m) true).map fun o => (⟨k, (p : Int), bs t⟩ :: o.1, o.2)
    | .bad i => some ([], some (p + i))
theorem lexN_ok : ∀ (n : Nat) (l : List UInt8) (p : Nat) (line : Bool) (o : LexOut), lexN n l p line = some o -> lexS l p line = o
  | 0, _, _, _, _, h => by cases h
  | n + 1, [], p, line, o, h => by rw [lexS_nil]; exact Option.some.inj h
  | n + 1, b :: r, p, line, o, h => by
    have h : (match stepS b r line with
      | .go m => lexN n (r.drop m) (p + 1 + m) line
      | .eol => (lexN n r (p + 1) false).map fun o => ((if line then [endT p] else []) ++ o.1, o.2)
      | .tok k t m => (lexN n (r.drop m) (p + 1 + m) true).map fun o => (⟨k, (p : Int), bs t⟩ :: o.1, o.2)
      | .bad i => some ([], some (p + i))) = some o := h
    cases hs : stepS b r line with
    | go m => rw [hs] at h; rw [lexS_go hs]; exact lexN_ok n _ _ _ _ h
    | eol =>
      rw [hs] at h
      obtain ⟨o', ho, rfl⟩ := Option.map_eq_some_iff.1 h
      rw [lexS_eol hs, lexN_ok n _ _ _ _ ho]
    | tok k t m =>
      rw [hs] at h
      obtain ⟨o', ho, rfl⟩ := Option.map_eq_some_iff.1 h
      rw [lexS_tok hs, lexN_ok n _ _ _ _ ho]
    | bad i => rw [hs] at h; rw [lexS_bad hs]; exact Option.some.inj h
def srcK : List UInt8 := [120, 32, 61, 32, 49, 32, 59, 32, 38, 38, 32, 97, 10, 43, 32, 50]
def srcJ : List UInt8 := [88, 32, 61, 32, 49, 32, 43, 32, 50, 10]
def toksK : List Tok := [⟨0, 0, bs [88]⟩, ⟨4, 2, bs [61]⟩, ⟨1, 4, bs [49]⟩, ⟨4, 13, bs [43]⟩, ⟨1, 15, bs [50]⟩, endT 16]
def toksJ : List Tok := [⟨0, 0, bs [88]⟩, ⟨4, 2, bs [61]⟩, ⟨1, 4, bs [49]⟩, ⟨4, 6, bs [43]⟩, ⟨1, 8, bs [50]⟩, endT 9]
theorem lexK : lexS srcK 0 false = (toksK, none) := lexN_ok 20 _ _ _ _ (by decide +kernel)
theorem lexJ : lexS srcJ 0 false = (toksJ, none) := lexN_ok 20 _ _ _ _ (by decide +kernel)
theorem lexF_of {d : List UInt8} {l : List Tok} (hd : d.length <= 4000) (h : lexS d 0 false = (l, none)) (hl : l.length <= 1200) : lexF d = (l, ((l.length : Nat) : Int), 0) := by
  unfold lexF
  rw [if_neg (by omega), h]
  dsimp only
  rw [if_neg (by omega)]
theorem lexF_K : lexF srcK = (toksK, 6, 0) := lexF_of (by decide) lexK (by decide)
theorem lexF_J : lexF srcJ = (toksJ, 6, 0) := lexF_of (by decide) lexJ (by decide)
theorem join_K : joinS false toksK = srcJ := by decide +kernel
theorem joinF_K : joinF toksK = (srcJ, 0) := by
  unfold joinF
  rw [join_K, lexF_J, if_neg (by decide), if_neg (by have : sameS toksJ toksK = true := by decide +kernel
                                                     simp [this])]
theorem textsK : texts toksK := by unfold texts; decide +kernel
theorem known_c (hL : Laid w) : Calls Tryz.prog 8 #[] w fun e w' => e = .returned (.bool true) /\ Pu w w' := by
  refine calls_by (F8_calls w) fun R hR => (lex_c hL srcK (by decide)).mono ?_
  rintro e w1 ⟨hp1, s, rfl, hrd⟩
  rw [lexF_K] at hrd ⊢
  refine ⟨s, _, _, rfl, (join_c (hL.pu hp1) hrd textsK (by decide +kernel)).mono ?_⟩
  rintro e w2 ⟨rfl, hp2⟩
  rw [joinF_K]
  refine ⟨_, _, rfl, ?_⟩
  refine hR _ _ ⟨?_, hp1.trans hp2⟩
  rw [show (⟨#[88, 32, 61, 32, 49, 32, 43, 32, 50, 10]⟩ : ByteArray) = bs srcJ from rfl, beq_self_eq_true]
end Go.Proofs.YtlogipcgejfnnaaGreatDoor

/- Lex: which tokens a source has: that the statement answers true. The signs: the library's tables of letters and of bytes. -/
set_option maxRecDepth 100000
set_option linter.unusedVariables false
set_option linter.unusedSimpArgs false
namespace Go.Proofs.YtlogipcgejfnnaaGreatDoor
open Go.Sh Go.Sh.Lx Go.RowKit
variable {w0 w w' : World}
end Go.Proofs.YtlogipcgejfnnaaGreatDoor

/- Lex: the line and the column of a place, as both packages tell, and that the statement answers true. The signs: the library's tables of letters and of bytes. -/
set_option maxRecDepth 100000
set_option linter.unusedVariables false
set_option linter.unusedSimpArgs false
namespace Go.Proofs.YtlogipcgejfnnaaGreatDoor
open Go.Sh Go.Sh.Lx Go.RowKit
variable {w0 w w' : World}
def lastK (d : List UInt8) : Nat -> Int
  | 0 => -1
  | k + 1 => if d[k]? = some 10 then (k : Int) else lastK d k
theorem lastK_succ (d : List UInt8) (k : Nat) : lastK d (k + 1) = if d[k]? = some 10 then (k : Int) else lastK d k := rfl
theorem lastK_in (d : List UInt8) : ∀ k : Nat, -1 <= lastK d k /\ lastK d k < (k : Int)
  | 0 => by simp [lastK]
  | k + 1 => by
    have := lastK_in d k
    rw [lastK_succ]
    split <;> omega
theorem lastK_take (d : List UInt8) (n : Nat) : ∀ k : Nat, k <= n -> lastK (d.take n) k = lastK d k
  | 0, _ => rfl
  | k + 1, h => by
    have e : (d.take n)[k]? = d[k]? := by rw [List.getElem?_take, if_pos (by omega)]
    rw [lastK_succ, lastK_succ, e, lastK_take d n k (by omega)]
def whereF (d : List UInt8) (place : Int) : Int × Int × Int :=
  if (lexF d).2.2 ≠ 0 then (0, 0, (lexF d).2.2)
  else if place < 0 ∨ (d.length : Int) < place then (0, 0, 1)
  else (1 + ((d.take place.toNat).count 10 : Nat), place - lastK d place.toNat, 0)
theorem ten_byte {x : UInt8} : (((x.toNat : Nat) : Int) == 10) = decide (x = 10) := by
  rw [beq_dec]
  refine dec_eq ⟨fun h => UInt8.toNat_inj.1 (by have : (10 : UInt8).toNat = 10 := rfl; omega), fun h => by subst h; rfl⟩
theorem last_c (l : List UInt8) (hl : l.length <= 140737488355328) (w : World) : Calls Tryz.prog 35 #[.string (bs l), .int .u8 10] w fun e w' => e = .returned (.int .i64 (lastK l l.length)) /\ w' = w := by
  refine calls_by (F35_calls _ _ w) fun R hR => ?_
  have h56 : Calls Tryz.prog 56 #[.string (bs l), .int .u8 10] w fun e w' => e = .returned (.int .i64 (lastK l l.length)) /\ w' = w := by
    refine calls_by (F56_calls _ _ w) fun R hR => ?_
    refine loopDown l.length (fun k n w' => n = (k : Int) - 1 /\ w' = w /\ k <= l.length /\ lastK l l.length = lastK l k) ⟨by rw [bs_size, wrap_in (by omega) (by omega)], rfl, Nat.le_refl _, rfl⟩ ?_
    rintro k J n w1 ⟨rfl, rfl, hk, hlast⟩ hJ
    refine Br.of (fun q => ?_) (fun q => hR _ _ ⟨?_, rfl⟩)
    · have q := dtrue q
      obtain ⟨j, rfl⟩ : ∃ j, k = j + 1 := ⟨k - 1, by omega⟩
      obtain ⟨x, hx⟩ := at_k (l := l) (k := j) (by omega)
      rw [show ((j + 1 : Nat) : Int) - 1 = (j : Int) by omega] at *
      refine ⟨x, by omega, by rw [toNat_i]; exact byte_list (by rw [bs_list]; exact hx), ?_⟩
      rw [ten_byte]
      rw [lastK_succ, hx] at hlast
      refine Br.of (fun q1 => hR _ _ ⟨?_, rfl⟩) (fun q1 => ?_)
      · have q1 := dtrue q1
        rw [hlast, if_pos (by rw [q1])]
      · have q1 := dfalse q1
        rw [if_neg (by simpa using q1)] at hlast
        rw [wrap_in (by omega) (by omega)]
        exact hJ j _ _ (by omega) ⟨rfl, rfl, by omega, hlast⟩
    · have q := dfalse q
      obtain rfl : k = 0 := by omega
      rw [hlast]; rfl
  refine h56.mono ?_
  rintro e w1 ⟨rfl, rfl⟩
  exact ⟨_, rfl, hR _ _ ⟨rfl, rfl⟩⟩
theorem take_extract (d : List UInt8) (n : Nat) : (bs d).extract 0 n = bs (d.take n) := bytes_ext (by rw [extract_list, bs_list, bs_list]; rfl)
theorem where_c (hL : Laid w) (d : List UInt8) (hd : d.length <= 20000) (p : Int) (hp : In64 p) : Calls Tryz.prog 20 #[.string (bs d), .int .i64 p] w fun e w' => e = .returned (.tuple #[.int .i64 (whereF d p).1, .int .i64 (whereF d p).2.1, .int .i64 (whereF d p).2.2]) /\ Pu w w' := by
  obtain ⟨hp1, hp2⟩ := hp
  refine calls_by (F20_calls _ _ w) fun R hR => (lex_c hL d (by omega)).mono ?_
  rintro e w1 ⟨hp1, s, rfl, hrd⟩
  refine ⟨s, _, _, rfl, Br.of (fun q => hR _ _ ⟨?_, hp1⟩) (fun q => ?_)⟩
  · unfold whereF; rw [if_pos (bntrue q)]
  have q := bnfalse q
  refine Br.of (fun q1 => hR _ _ ⟨?_, hp1⟩) (fun q1 => Br.of (fun q2 => hR _ _ ⟨?_, hp1⟩) (fun q2 => ?_))
  · have q1 := dtrue q1
    unfold whereF; rw [if_neg (by simp [q]), if_pos (.inl q1)]
  · have q2 := dtrue q2
    rw [bs_size] at q2
    unfold whereF; rw [if_neg (by simp [q]), if_pos (.inr (by omega))]
  have q1 := dfalse q1
  have q2 := dfalse q2
  rw [bs_size] at q2
  refine dwE_intro fun w2 hp2' _ => ?_
  have hP := hp1.trans hp2'
  refine ⟨by omega, by rw [bs_size]; omega, by omega, by omega, by rw [bs_size]; omega, by omega, ?_⟩
  rw [take_extract]
  refine (Any.strings_Count_one Tryz.lays138 (bs (d.take p.toNat)) 10 w2).mono ?_
  rintro e w3 ⟨rfl, rfl⟩
  refine ⟨_, rfl, (last_c _ (by rw [List.length_take]; omega) w3).mono ?_⟩
  rintro e w4 ⟨rfl, rfl⟩
  refine ⟨_, rfl, hR _ _ ⟨?_, hP⟩⟩
  have hlen : (d.take p.toNat).length = p.toNat := by rw [List.length_take]; omega
  have hc : Lib.countByte (bs (d.take p.toNat)).data.toList 10 = (d.take p.toNat).count 10 := by rw [bs_list]; rfl
  have hc2 : (d.take p.toNat).count 10 <= p.toNat := by have := List.count_le_length (a := (10 : UInt8)) (l := d.take p.toNat); omega
  rw [hc, hlen, lastK_take d _ _ (Nat.le_refl _)]
  have hl := lastK_in d p.toNat
  unfold whereF
  rw [if_neg (by simp [q]), if_neg (by omega)]
  rw [wrap_in (by omega) (by omega), wrap_in (by omega) (by omega)]
theorem rwhere_c (d : List UInt8) (hd : d.length <= 20000) (p : Int) (hp : In64 p) : Calls Tryz.prog 21 #[.string (bs d), .int .i64 p] w fun e w' => e = .returned (.tuple #[.int .i64 (whereF d p).1, .int .i64 (whereF d p).2.1, .int .i64 (whereF d p).2.2]) /\ Pu w w' := by
  obtain ⟨hp1, hp2⟩ := hp
  refine calls_by (F21_calls _ _ w) fun R hR => (rlex_c d (by omega)).mono ?_
  rintro e w1 ⟨hp1, s, rfl, hrd⟩
  refine ⟨s, _, _, rfl, Br.of (fun q => hR _ _ ⟨?_, hp1⟩) (fun q => ?_)⟩
  · unfold whereF; rw [if_pos (bntrue q)]
  have q := bnfalse q
  refine Br.of (fun q1 => hR _ _ ⟨?_, hp1⟩) (fun q1 => Br.of (fun q2 => hR _ _ ⟨?_, hp1⟩) (fun q2 => ?_))
  · have q1 := dtrue q1
    unfold whereF; rw [if_neg (by simp [q]), if_pos (.inl q1)]
  · have q2 := dtrue q2
    rw [bs_size] at q2
    unfold whereF; rw [if_neg (by simp [q]), if_pos (.inr (by omega))]
  have q1 := dfalse q1
  have q2 := dfalse q2
  rw [bs_size] at q2
  obtain ⟨n, rfl⟩ : ∃ n : Nat, p = (n : Int) := ⟨p.toNat, by omega⟩
  refine loopUp n (fun k t w' => t = (1 + (((d.take k).count 10 : Nat) : Int), (k : Int) - lastK d k, (k : Int)) /\ w' = w1) ⟨rfl, rfl⟩ ?_
  rintro k J t w2 hk ⟨rfl, rfl⟩ hJ
  dsimp only
  have hl := lastK_in d k
  have hc2 : (d.take k).count 10 <= k := by have := List.count_le_length (a := (10 : UInt8)) (l := d.take k); rw [List.length_take] at this; omega
  refine Br.of (fun q3 => ?_) (fun q3 => hR _ _ ⟨?_, hp1⟩)
  · have q3 := dtrue q3
    have hk2 : k < n := by omega
    obtain ⟨x, hx⟩ := at_k (l := d) (k := k) (by omega)
    refine ⟨x, by omega, by rw [toNat_i]; exact byte_list (by rw [bs_list]; exact hx), ?_⟩
    rw [ten_byte, wrap_in (n := (k : Int) + 1) (by omega) (by omega)]
    refine Br.of (fun q4 => ?_) (fun q4 => ?_)
    · have q4 := dtrue q4
      rw [wrap_in (by omega) (by omega)]
      refine hJ _ _ hk2 ⟨?_, rfl⟩
      rw [take_at hx, q4, List.count_append]
      rw [lastK_succ, hx, if_pos (by rw [q4])]
      refine Prod.ext ?_ (Prod.ext ?_ ?_)
      · show 1 + (((d.take k).count 10 : Nat) : Int) + 1 = 1 + (((d.take k).count 10 + 1 : Nat) : Int); omega
      · show (1 : Int) = ((k + 1 : Nat) : Int) - (k : Int); omega
      · show (k : Int) + 1 = ((k + 1 : Nat) : Int); omega
    · have q4 := dfalse q4
      rw [wrap_in (by omega) (by omega)]
      refine hJ _ _ hk2 ⟨?_, rfl⟩
      rw [take_at hx, List.count_append]
      have h0 : List.count (10 : UInt8) [x] = 0 := by
        rw [List.count_eq_zero]; simpa using fun h => q4 h.symm
      rw [h0]
      rw [lastK_succ, hx, if_neg (by simpa using q4)]
      refine Prod.ext ?_ (Prod.ext ?_ ?_)
      · rfl
      · show (k : Int) - lastK d k + 1 = ((k + 1 : Nat) : Int) - lastK d k; omega
      · show (k : Int) + 1 = ((k + 1 : Nat) : Int); omega
  · have q3 := dfalse q3
    obtain rfl : k = n := by omega
    unfold whereF
    rw [if_neg (by simp [q]), if_neg (by omega), toNat_i]
theorem wheres_c (w : World) (hL : Laid w) (s : ByteArray) (hs : s.size <= 140737488355328) (p : Int) (hp : In64 p) : Calls Tryz.prog 7 #[.string s, .int .i64 p] w fun e w' => e = .returned (.bool true) /\ Pu w w' := by
  obtain ⟨d, rfl, _⟩ := text_bs s
  rw [bs_size] at hs
  refine calls_by (F7_calls _ _ w) fun R hR => Br.of (fun q => ?_) (fun q => ?_)
  · refine (known_c hL).mono ?_
    rintro e w1 ⟨rfl, hp⟩
    exact ⟨_, rfl, hR _ _ ⟨rfl, hp⟩⟩
  · have q := dfalse q
    rw [bs_size] at q
    refine (where_c hL d (by omega) p hp).mono ?_
    rintro e w1 ⟨rfl, hp1⟩
    refine ⟨_, _, _, rfl, (rwhere_c d (by omega) p hp).mono ?_⟩
    rintro e w2 ⟨rfl, hp2⟩
    have hP := hp1.trans hp2
    refine ⟨_, _, _, rfl, Br.of (fun _ => Br.of (fun _ => Br.of (fun _ => (known_c (hL.pu hP)).mono ?_) (fun q => absurd rfl (bfalse q))) (fun q => absurd rfl (bfalse q))) (fun q => absurd rfl (bfalse q))⟩
    rintro e w4 ⟨rfl, hp4⟩
    exact ⟨_, rfl, hR _ _ ⟨rfl, hP.trans hp4⟩⟩
end Go.Proofs.YtlogipcgejfnnaaGreatDoor
