import Derived.Test.YtlogipcgejfnnaaDoorShTwentyFive
import Derived.Test.YtlogipcgejfnnaaDoorLyPrA
import Derived.Lib.Bytealg
import Derived.Lib.IndexLaws
import Derived.Shelf.Strings.CaseAny
import Derived.Shelf.Strings.BuilderK
import Derived.Shelf.Strings.Trim
import Derived.Shelf.Strings.SlTrimAscii
import Derived.Shelf.Strings.Search3
import Derived.Test.YtlogipcgejfnnaaDoorProg
import Derived.Test.YtlogipcgejfnnaaDoorShTwentyTwo
import Derived.Test.YtlogipcgejfnnaaDoorShThirteen
import Derived.Test.YtlogipcgejfnnaaDoorShTwentySix
/- Lex: tokens, and which a source has, in plain words. No condition. -/
set_option linter.unusedVariables false
set_option linter.unusedSimpArgs false
namespace Go.Sh.Lx
open Go.Sh Go.RowKit
structure Tok where
  kind : Int
  at_ : Int
  text : ByteArray
deriving DecidableEq, Inhabited
abbrev tokV (t : Tok) : List Value := [.int .i64 t.kind, .int .i64 t.at_, .string t.text]
instance : Enc Tok where
  sz := 3
  rd _ vs t := vs = tokV t /\ In64 t.kind /\ In64 t.at_
  len h := by rw [h.1]; rfl
  pu _ h := h
instance : Lim Tok := ⟨fun t => Lim.ok t.text⟩
theorem tokAt {w : World} {s : SV} {l : List Tok} (h : RdSl w s l) {i : Nat} {t : Tok} (hx : l[i]? = some t) : ∃ a, s.a = some a /\ i < s.len /\ In64 t.kind /\ In64 t.at_ /\
    w.cell? ((a.add (i * 3)).add 0) = some (.int .i64 t.kind) /\ w.cell? ((a.add (i * 3)).add 1) = some (.int .i64 t.at_) /\ w.cell? ((a.add (i * 3)).add 2) = some (.string t.text) := by
  obtain ⟨a, ha, vs, ⟨rfl, h1⟩, h2⟩ := h.get i t hx
  have hi : i < l.length := (List.getElem?_eq_some_iff.1 hx).1
  have h2 : CellsAt w (a.add (i * 3)) (tokV t) := h2
  exact ⟨a, ha, by rw [h.len]; exact hi, h1.1, h1.2, h2 0 _ rfl, h2 1 _ rfl, h2 2 _ rfl⟩
def isB (b : UInt8) : Bool := decide (b.toNat = 9) || decide (b.toNat = 10) || (decide (32 <= b.toNat) && decide (b.toNat <= 126))
def blkB (b : UInt8) : Bool := decide (b.toNat = 9) || decide (b.toNat = 32)
def letB (b : UInt8) : Bool := decide (b.toNat = 95) || (decide (97 <= b.toNat) && decide (b.toNat <= 122)) || (decide (65 <= b.toNat) && decide (b.toNat <= 90))
def nlB (b : UInt8) : Bool := decide (b.toNat = 10)
def badAt (l : List UInt8) : Option Nat := l.findIdx? fun b => !isB b
def lineOf (l : List UInt8) : List UInt8 := l.takeWhile fun b => !nlB b
def ampB : List UInt8 -> Bool
  | a :: b :: _ => decide (a.toNat = 38) && decide (b.toNat = 38)
  | _ => false
def goesB (r : List UInt8) : Bool := match r.dropWhile blkB with
  | [] => true
  | b :: t => nlB b || ampB (b :: t)
def signsS : List (List UInt8) := [[46, 78, 85, 76, 76, 46], [46, 65, 78, 68, 46], [46, 78, 79, 84, 46], [46, 79, 82, 46], [46, 84, 46], [46, 70, 46], [58, 61], [61, 61], [60, 62], [33, 61], [60, 61], [62, 61], [45, 62],
  [40], [41], [91], [93], [123], [125], [44], [124], [58], [46], [61], [35], [60], [62], [43], [45], [42], [47], [37], [94], [36], [38], [63], [64], [33]]
def signS (l : List UInt8) : Option (List UInt8) := signsS.find? fun w => decide ((l.take w.length).map capU = w)
def datesD (l : List UInt8) : List UInt8 := (l.drop 2).take 4 ++ (l.drop 7).take 2 ++ (l.drop 10).take 2
def dateL (l : List UInt8) : Option (List UInt8 × Nat) :=
  if l.take 2 = [123, 125] then some ([], 2)
  else if l.length < 13 ∨ l.take 2 ≠ [123, 94] ∨ l[6]? ≠ some 45 ∨ l[9]? ≠ some 45 ∨ l[12]? ≠ some 125 then none
  else if (unstampS (datesD l)).2 = true /\ datesD l ≠ List.replicate 8 32 then some (datesD l, 13) else none
inductive Stp where
  | go (m : Nat)
  | eol
  | tok (k : Int) (t : List UInt8) (m : Nat)
  | bad (i : Nat)
deriving DecidableEq
def quoteS (q : UInt8) (r : List UInt8) : Stp :=
  let t := r.takeWhile fun b => !nlB b && !decide (b = q)
  if r[t.length]? = some q then (match badAt t with
    | some i => .bad (i + 1)
    | none => .tok 2 t (t.length + 1)) else .bad 0
def tokS (b : UInt8) (r : List UInt8) : Stp :=
  if letB b then (let t := (b :: r).takeWhile fun c => letB c || digB c; if 24 < t.length then .bad 0 else .tok 0 (t.map capU) (t.length - 1))
  else if digB b then (let t := (b :: r).takeWhile digB; if 15 < t.length then .bad 0 else .tok 1 t (t.length - 1))
  else if b.toNat = 34 ∨ b.toNat = 39 then quoteS b r
  else match dateL (b :: r) with
    | some (d, n) => .tok 3 d (n - 1)
    | none => match signS (b :: r) with
      | some w => .tok 4 w (w.length - 1)
      | none => .bad 0
def stepS (b : UInt8) (r : List UInt8) (line : Bool) : Stp :=
  if nlB b then .eol
  else if blkB b then .go 0
  else if ampB (b :: r) || (decide (b.toNat = 42) && !line) then (match badAt (lineOf (b :: r)) with
    | some i => .bad i
    | none => .go ((lineOf (b :: r)).length - 1))
  else if decide (b.toNat = 59) && goesB r then (match badAt (lineOf r) with
    | some i => .bad (i + 1)
    | none => .go (if (lineOf r).length < r.length then (lineOf r).length + 1 else (lineOf r).length))
  else tokS b r
abbrev LexOut := List Tok × Option Nat
def endT (p : Nat) : Tok := ⟨5, (p : Int), ⟨#[]⟩⟩
def lexS : List UInt8 -> Nat -> Bool -> LexOut
  | [], p, line => (if line then [endT p] else [], none)
  | b :: r, p, line => match stepS b r line with
    | .go m => lexS (r.drop m) (p + 1 + m) line
    | .eol => ((if line then [endT p] else []) ++ (lexS r (p + 1) false).1, (lexS r (p + 1) false).2)
    | .tok k t m => (⟨k, (p : Int), bs t⟩ :: (lexS (r.drop m) (p + 1 + m) true).1, (lexS (r.drop m) (p + 1 + m) true).2)
    | .bad i => ([], some (p + i))
 termination_by l => l.length
 decreasing_by all_goals (simp only [List.length_drop, List.length_cons]; omega)
theorem lexS_nil (p : Nat) (line : Bool) : lexS [] p line = (if line then [endT p] else [], none) := by rw [lexS]
theorem lexS_go {b : UInt8} {r : List UInt8} {line : Bool} {m : Nat} (h : stepS b r line = .go m) (p : Nat) : lexS (b :: r) p line = lexS (r.drop m) (p + 1 + m) line := by rw [lexS, h]
theorem lexS_eol {b : UInt8} {r : List UInt8} {line : Bool} (h : stepS b r line = .eol) (p : Nat) : lexS (b :: r) p line = ((if line then [endT p] else []) ++ (lexS r (p + 1) false).1, (lexS r (p + 1) false).2) := by rw [lexS, h]
theorem lexS_tok {b : UInt8} {r : List UInt8} {line : Bool} {k : Int} {t : List UInt8} {m : Nat} (h : stepS b r line = .tok k t m) (p : Nat) :
    lexS (b :: r) p line = (⟨k, (p : Int), bs t⟩ :: (lexS (r.drop m) (p + 1 + m) true).1, (lexS (r.drop m) (p + 1 + m) true).2) := by rw [lexS, h]
theorem lexS_bad {b : UInt8} {r : List UInt8} {line : Bool} {i : Nat} (h : stepS b r line = .bad i) (p : Nat) : lexS (b :: r) p line = ([], some (p + i)) := by rw [lexS, h]
def lexF (d : List UInt8) : List Tok × Int × Int :=
  if 4000 < d.length then ([], 0, 3) else match (lexS d 0 false).2 with
    | some i => ([], (i : Int), 2)
    | none => if 1200 < (lexS d 0 false).1.length then ([], 0, 3) else ((lexS d 0 false).1, ((lexS d 0 false).1.length : Int), 0)
end Go.Sh.Lx

/- Lex: the scanner, its classes of bytes, and how it goes over blanks and comments. No condition but those stated. -/
set_option maxRecDepth 100000
set_option linter.unusedVariables false
set_option linter.unusedSimpArgs false
namespace Go.Proofs.YtlogipcgejfnnaaDoor
open Go.Sh Go.Sh.Lx Go.RowKit
theorem bs_size_i (l : List UInt8) : (((bs l).size : Nat) : Int) = (l.length : Int) := by rw [bs_size]
theorem toNat_i (n : Nat) : ((n : Int)).toNat = n := Int.toNat_natCast n
theorem extract_drop (d : List UInt8) (p : Nat) : (bs d).extract p (bs d).size = bs (d.drop p) := by
  apply bytes_ext
  rw [extract_list, bs_list, bs_list, bs_size, List.take_length]
theorem extract_take (d : List UInt8) (p q : Nat) : (bs d).extract p q = bs ((d.take q).drop p) := by
  apply bytes_ext
  rw [extract_list, bs_list, bs_list]
theorem bs_get {d : List UInt8} {k : Nat} {b : UInt8} (h : d[k]? = some b) : (bs d)[k]? = some b := byte_list (by rw [bs_list]; exact h)
theorem bs_inj {a b : List UInt8} : bs a = bs b ↔ a = b := ⟨fun h => by rw [← bs_list a, h, bs_list], fun h => by rw [h]⟩
theorem bs_beq (a b : List UInt8) : ((bs a).toList == (bs b).toList) = decide (a = b) := by
  rw [toList_beq]; exact dec_eq bs_inj
theorem stHasPrefix_c (s p : List UInt8) (w : World) : Calls Tryd.prog 40 #[.string (bs s), .string (bs p)] w fun e w' => e = .returned (.bool (decide (s.take p.length = p))) /\ w' = w := by
  refine F40_calls _ _ w _ (Br.of (fun h => ?_) (fun h => ⟨?_, rfl⟩))
  · have h := dtrue h
    rw [bs_size_i, bs_size_i] at h
    refine ⟨by omega, by rw [bs_size, toNat_i, bs_size]; omega, by omega, ?_, rfl⟩
    rw [toNat_i, bs_size, extract_take, bs_beq, List.drop_zero]
  · have h := dfalse h
    rw [bs_size_i, bs_size_i] at h
    congr 2
    have : ¬ s.take p.length = p := fun e => by
      have := congrArg List.length e
      rw [List.length_take] at this; omega
    simp [this]
theorem hasPrefix_c (s p : List UInt8) (w : World) : Calls Tryd.prog 26 #[.string (bs s), .string (bs p)] w fun e w' => e = .returned (.bool (decide (s.take p.length = p))) /\ w' = w := by
  refine F26_calls _ _ w _ ((stHasPrefix_c s p w).mono ?_)
  rintro e w' ⟨rfl, rfl⟩
  exact ⟨_, rfl, rfl, rfl⟩
theorem indexByte_run (s : ByteArray) (n : Int) (w : World) : (callFunc 93 #[.string s, .int .u8 n]).run Tryd.prog w = .ok (.value (.int .i64 (Lib.indexByte s.data.toList n.toNat.toUInt8))) w := by
  rw [run_callFunc_extern Tryd.func93 (by kernel_rfl) (by kernel_rfl) (by kernel_rfl) (e := Extern.BytealgIndexByte.indexByte) (by kernel_rfl), Lib.run_indexByteString]
  rfl
theorem indexByte_c (l : List UInt8) (n : Int) (w : World) : Calls Tryd.prog 74 #[.string (bs l), .int .u8 n] w fun e w' => e = .returned (.int .i64 (Lib.indexByte l n.toNat.toUInt8)) /\ w' = w := by
  refine F74_calls _ _ w _ ((F84_calls _ _ w _ ⟨_, w, indexByte_run _ n w, ?_⟩ : Calls Tryd.prog 84 _ w fun e w' => e = .returned (.int .i64 (Lib.indexByte l n.toNat.toUInt8)) /\ w' = w).mono ?_)
  · rw [bs_list]; exact ⟨rfl, rfl⟩
  · rintro e w' ⟨rfl, rfl⟩
    exact ⟨_, rfl, rfl, rfl⟩
theorem indexByte_tw (c : UInt8) : ∀ l : List UInt8, Lib.indexByte l c = if (l.takeWhile fun b => !decide (b = c)).length < l.length then ((l.takeWhile fun b => !decide (b = c)).length : Int) else -1
  | [] => rfl
  | b :: l => by
    have ih := indexByte_tw c l
    unfold Lib.indexByte
    by_cases h : b = c
    · subst h; simp
    · have e : (b == c) = false := by simpa using h
      rw [e, ih]
      simp only [h, decide_false, Bool.not_false, List.takeWhile_cons, if_true, List.length_cons, Bool.false_eq_true, if_false, Nat.add_lt_add_iff_right]
      split
      · rename_i h2
        have : ((((l.takeWhile fun b => !decide (b = c)).length : Int)) == -1) = false := by
          rw [beq_eq_false_iff_ne]; omega
        simp only [this, Bool.false_eq_true, if_false]; omega
      · rfl
def clsN (k : Nat) : Nat := if k = 9 ∨ k = 32 then 3 else if k = 95 ∨ (97 <= k /\ k <= 122) ∨ (65 <= k /\ k <= 90) then 1 else if 48 <= k /\ k <= 57 then 2 else if k ≠ 10 /\ (k < 32 ∨ 126 < k) then 4 else 0
theorem cls_all : ∀ k : Nat, k < 256 -> (decide (clsN k = 3) = blkB (UInt8.ofNat k) /\ decide (clsN k = 1) = letB (UInt8.ofNat k) /\ decide (clsN k = 2) = digB (UInt8.ofNat k) /\ decide (clsN k = 4) = !isB (UInt8.ofNat k)) := by decide +kernel
theorem cls_b (b : UInt8) : decide (clsN b.toNat = 3) = blkB b /\ decide (clsN b.toNat = 1) = letB b /\ decide (clsN b.toNat = 2) = digB b /\ decide (clsN b.toNat = 4) = !isB b := by
  have := cls_all b.toNat b.toNat_lt
  rwa [UInt8.ofNat_toNat] at this
def clsV (k : Nat) : Value := .int .u8 (clsN k : Nat)
theorem zc43 : zc Tryd.prog 37 = arrF 256 fun _ => .int .u8 0 := by kernel_rfl
theorem s43 : sizeB Tryd.prog 37 = 256 := by kernel_rfl
theorem arrF_oneC {n : Nat} {f : Nat -> Value} (h : ∀ i, oneC (f i) = true) : (arrF n f).toList.all oneC = true := by
  simp [arrF, List.all_eq_true, h]
theorem u8_wrap {k : Nat} (h : k < 256) : IntKind.u8.wrap (k : Int) = (k : Int) := by rw [IntKind.wrap_u8]; omega
theorem classes_c (w : World) : Calls Tryd.prog 16 #[] w fun e w' => e = .returned (.agg (arrF 256 clsV)) /\ Pu w w' := by
  refine F16_calls w _ ?_
  unfold F16_14
  rw [zc43]
  refine alB fun w1 hp1 hb1 => alB fun w2 hp2 hb2 => ?_
  have h01 := blk_lt hb1
  have hb1 := hp2.blk hb1
  obtain ⟨r1, hr1⟩ : ∃ r, r = w1.heap.size := ⟨_, rfl⟩
  rw [← hr1] at hb2 ⊢
  refine loopUp 256 (fun k t w' => t = (k : Int) /\ Pu w w' /\ w'.heap[w.heap.size]? = some (.cells (arrF 256 fun _ => .int .u8 0) 37) /\ w'.heap[r1]? = some (.cells (arrF 256 fun i => if i < k then clsV i else .int .u8 0) 37))
    ⟨rfl, hp1.trans hp2, hb1, by rw [hb2]; rfl⟩ ?_
  rintro k J t w3 hk ⟨rfl, hp3, hz, hc⟩ hJ
  refine Br.of (fun h => ?_) (fun h => ?_)
  · have hk2 : k < 256 := by have := dtrue h; omega
    show F16_8 _ _ _ _ (k : Int) (IntKind.u8.wrap (k : Int)) (k : Int) [] w3
    rw [u8_wrap hk2]
    have nxt : ∀ {w4 : World}, Pu w w4 -> w4.heap[w.heap.size]? = some (.cells (arrF 256 fun _ => .int .u8 0) 37) -> w4.heap[r1]? = some (.cells (arrF 256 fun i => if i < k + 1 then clsV i else .int .u8 0) 37) ->
        F16_2 (fun e w' => e = .returned (.agg (arrF 256 clsV)) /\ Pu w w') J (some ⟨w.heap.size, 0, none⟩) (some ⟨r1, 0, none⟩) (k : Int) [] w4 := fun {w4} h1 h2 h3 => by
      unfold F16_2
      rw [wrap_in (by omega) (by omega)]
      exact hJ _ _ hk2 ⟨by omega, h1, h2, h3⟩
    have set : ∀ n : Nat, clsN k = n -> ∀ a : Addr, a = ⟨r1, 0, none⟩ -> 0 <= (k : Int) /\ (k : Int) < ((256 : Nat) : Int) /\ st1 (a.add ((k : Int).toNat * 1)) (.int .u8 (n : Int)) w3 fun w7 =>
        F16_2 (fun e w' => e = .returned (.agg (arrF 256 clsV)) /\ Pu w w') J (some ⟨w.heap.size, 0, none⟩) (some ⟨r1, 0, none⟩) (k : Int) [] w7 := fun n hn a ha => by
      subst ha
      refine ⟨by omega, by omega, ?_⟩
      rw [add_def, toNat_i]
      refine st1_intro hc (by rw [arrF_size]; omega) fun w4 hw4 hb4 => nxt ?_ ?_ ?_
      · rw [hw4]; exact Pu.andNew hp3 (Fr.setCell w3 _ _) (fun i hi => by rw [show i = r1 from hi]; omega)
      · rw [hw4, setCell_other (by show w.heap.size ≠ r1; omega)]; exact hz
      · rw [hb4, arrF_set]
        congr 2
        apply arrF_congr
        intro i hi
        by_cases e : i = 0 + k * 1
        · rw [if_pos e, if_pos (by omega)]
          have : i = k := by omega
          subst this
          unfold clsV; rw [hn]
        · rw [if_neg e]
          by_cases h9 : i < k
          · rw [if_pos h9, if_pos (by omega)]
          · rw [if_neg h9, if_neg (by omega)]
    have none0 : clsN k = 0 -> F16_2 (fun e w' => e = .returned (.agg (arrF 256 clsV)) /\ Pu w w') J (some ⟨w.heap.size, 0, none⟩) (some ⟨r1, 0, none⟩) (k : Int) [] w3 := fun hn => nxt hp3 hz (by
      rw [hc]
      congr 2
      apply arrF_congr
      intro i hi
      by_cases h9 : i < k
      · rw [if_pos h9, if_pos (by omega)]
      · rw [if_neg h9]
        by_cases e : i < k + 1
        · rw [if_pos e]
          have : i = k := by omega
          subst this
          unfold clsV; rw [hn]; rfl
        · rw [if_neg e])
    have c3 : (k = 9 ∨ k = 32) -> clsN k = 3 := fun h => by unfold clsN; rw [if_pos h]
    have c1 : ¬ (k = 9 ∨ k = 32) -> (k = 95 ∨ (97 <= k /\ k <= 122) ∨ (65 <= k /\ k <= 90)) -> clsN k = 1 := fun h h2 => by unfold clsN; rw [if_neg h, if_pos h2]
    have c2 : 48 <= k -> k <= 57 -> clsN k = 2 := fun h h2 => by unfold clsN; rw [if_neg (by omega), if_neg (by omega), if_pos ⟨h, h2⟩]
    have c4 : ¬ (k = 9 ∨ k = 32) -> k ≠ 10 -> (k < 32 ∨ 126 < k) -> clsN k = 4 := fun h h2 h3 => by unfold clsN; rw [if_neg h, if_neg (by omega), if_neg (by omega), if_pos ⟨h2, h3⟩]
    have c0 : ¬ (k = 9 ∨ k = 32) -> ¬ (k = 95 ∨ (97 <= k /\ k <= 122) ∨ (65 <= k /\ k <= 90)) -> ¬ (48 <= k /\ k <= 57) -> ¬ (k ≠ 10 /\ (k < 32 ∨ 126 < k)) -> clsN k = 0 := fun h h2 h3 h4 => by unfold clsN; rw [if_neg h, if_neg h2, if_neg h3, if_neg h4]
    have blk : (k = 9 ∨ k = 32) -> F16_3 (fun e w' => e = .returned (.agg (arrF 256 clsV)) /\ Pu w w') J (some ⟨w.heap.size, 0, none⟩) (some ⟨r1, 0, none⟩) (k : Int) (k : Int) [] w3 := fun h => set 3 (c3 h) _ rfl
    have four : ¬ (k = 9 ∨ k = 32) -> ∀ b : Bool, b = decide (k = 95 ∨ (97 <= k /\ k <= 122) ∨ (65 <= k /\ k <= 90)) -> F16_4 (fun e w' => e = .returned (.agg (arrF 256 clsV)) /\ Pu w w') J (some ⟨w.heap.size, 0, none⟩) (some ⟨r1, 0, none⟩) (k : Int) (k : Int) (k : Int) b [] w3 := fun hn b hb => by
      subst hb
      refine Br.of (fun h => set 1 (c1 hn (dtrue h)) _ rfl) (fun h => ?_)
      have h := dfalse h
      have rest : ¬ (48 <= k /\ k <= 57) -> Br ((k : Int) != 10) (Br (decide ((k : Int) < 32)) _ (Br (decide ((k : Int) > 126)) _ _)) _ := fun h9 =>
        Br.of (fun d => Br.of (fun d2 => set 4 (c4 hn (by have := bntrue d; omega) (.inl (by have := dtrue d2; omega))) _ rfl) (fun d2 => Br.of (fun d3 => set 4 (c4 hn (by have := bntrue d; omega) (.inr (by have := dtrue d3; omega))) _ rfl)
          (fun d3 => none0 (c0 hn h h9 (by have := dfalse d2; have := dfalse d3; omega))))) (fun d => none0 (c0 hn h h9 (by have := bnfalse d; omega)))
      exact Br.of (fun d => Br.of (fun d2 => set 2 (c2 (by have := dtrue d; omega) (by have := dtrue d2; omega)) _ rfl) (fun d2 => rest (by have := dfalse d2; omega))) (fun d => rest (by have := dfalse d; omega))
    have five : ¬ (k = 9 ∨ k = 32) -> F16_5 (fun e w' => e = .returned (.agg (arrF 256 clsV)) /\ Pu w w') J (some ⟨w.heap.size, 0, none⟩) (some ⟨r1, 0, none⟩) (k : Int) (k : Int) (k : Int) [] w3 := fun hn => by
      refine Br.of (fun d => four hn _ ?_) (fun d => Br.of (fun d1 => Br.of (fun d2 => four hn _ ?_) (fun d2 => Br.of (fun d3 => four hn _ ?_) (fun d3 => four hn _ ?_))) (fun d1 => Br.of (fun d3 => four hn _ ?_) (fun d3 => four hn _ ?_)))
      · have := btrue d; symm; simp; omega
      · have := dtrue d1; have := dtrue d2; symm; simp; omega
      · have := dtrue d3; have := dfalse d2; have := bfalse d; exact dec_eq (by omega)
      · have := dfalse d3; have := dfalse d2; have := bfalse d; symm; simp; omega
      · have := dtrue d3; have := dfalse d1; have := bfalse d; exact dec_eq (by omega)
      · have := dfalse d3; have := dfalse d1; have := bfalse d; symm; simp; omega
    refine Br.of (fun d => blk (.inl (by have := btrue d; omega))) (fun d => Br.of (fun d2 => blk (.inr (by have := btrue d2; omega))) (fun d2 => five (by have := bfalse d; have := bfalse d2; omega)))
  · have hk2 : k = 256 := by have := dfalse h; omega
    subst hk2
    have hall : (arrF 256 fun i => if i < 256 then clsV i else .int .u8 0) = arrF 256 clsV := arrF_congr fun i hi => by rw [if_pos hi]
    rw [hall] at hc
    refine ⟨arrF 256 clsV, arrF_size _ _, fun i hi => by rw [cl hc], stA_fill hz (by rw [arrF_size, s43]) (by rw [arrF_size, arrF_size]) (arrF_oneC fun i => rfl) fun w5 hb5 hf5 _ => ⟨arrF 256 clsV, arrF_size _ _, fun i hi => by rw [cl hb5], rfl, ?_⟩⟩
    exact Pu.andNew hp3 hf5 (fun i hi => by rw [show i = w.heap.size from hi]; exact Nat.le_refl _)
end Go.Proofs.YtlogipcgejfnnaaDoor

/- Lex: the scanner's state, and how it goes over blanks, comments and lines that go on. No condition but those stated. -/
set_option maxRecDepth 100000
set_option linter.unusedVariables false
set_option linter.unusedSimpArgs false
namespace Go.Proofs.YtlogipcgejfnnaaDoor
open Go.Sh Go.Sh.Lx Go.RowKit
def scF (d : List UInt8) (p : Nat) (l g : Bool) (bad : Int) (i : Nat) : Value :=
  if i = 0 then .string (bs d) else if i = 1 then .int .i64 (p : Int) else if i = 258 then .bool l else if i = 259 then .bool g else if i = 260 then .int .i64 bad else clsV (i - 2)
structure Sc (w0 w : World) (b : Nat) (d : List UInt8) (p : Nat) (l g : Bool) (bad : Int) : Prop where
  since : Pu w0 w
  new : w0.heap.size <= b
  blk : w.heap[b]? = some (.cells (arrF 261 (scF d p l g bad)) 40)
  le : p <= d.length
  lim : d.length <= 4000
variable {w0 w w' : World} {b p : Nat} {d : List UInt8} {l g : Bool} {bad : Int}
theorem Sc.pu (h : Sc w0 w b d p l g bad) (hp : Pu w w') : Sc w0 w' b d p l g bad := ⟨h.since.trans hp, h.new, hp.blk h.blk, h.le, h.lim⟩
theorem Sc.fr {B : Nat -> Prop} (h : Sc w0 w b d p l g bad) (hf : Fr B w w') (h1 : ¬ B b) (h2 : ∀ i, B i -> w0.heap.size <= i) : Sc w0 w' b d p l g bad := ⟨Pu.andNew h.since hf h2, h.new, hf.blk h.blk h1, h.le, h.lim⟩
theorem Sc.s (h : Sc w0 w b d p l g bad) : w.cell? (⟨b, 0, none⟩ : Addr) = some (.string (bs d)) := by rw [cl0 h.blk, arrF_get (by omega)]; rfl
theorem Sc.at_ (h : Sc w0 w b d p l g bad) : w.cell? ((⟨b, 0, none⟩ : Addr).add 1) = some (.int .i64 (p : Int)) := by rw [cl h.blk, arrF_get (by omega)]; rfl
theorem Sc.ln (h : Sc w0 w b d p l g bad) : w.cell? ((⟨b, 0, none⟩ : Addr).add 258) = some (.bool l) := by rw [cl h.blk, arrF_get (by omega)]; rfl
theorem Sc.bg (h : Sc w0 w b d p l g bad) : w.cell? ((⟨b, 0, none⟩ : Addr).add 259) = some (.bool g) := by rw [cl h.blk, arrF_get (by omega)]; rfl
theorem Sc.bd (h : Sc w0 w b d p l g bad) : w.cell? ((⟨b, 0, none⟩ : Addr).add 260) = some (.int .i64 bad) := by rw [cl h.blk, arrF_get (by omega)]; rfl
theorem Sc.cls (h : Sc w0 w b d p l g bad) (x : UInt8) : w.cell? (((⟨b, 0, none⟩ : Addr).add 2).add (((x.toNat : Nat) : Int).toNat * 1)) = some (.int .u8 (clsN x.toNat : Nat)) := by
  have hx := x.toNat_lt
  rw [add_def, add_def, cell_blk h.blk, arrF_get (by rw [toNat_i]; omega), toNat_i]
  unfold scF
  rw [if_neg (by omega), if_neg (by omega), if_neg (by omega), if_neg (by omega), if_neg (by omega), show 0 + 2 + x.toNat * 1 - 2 = x.toNat by omega]; rfl
theorem Sc.st (h : Sc w0 w b d p l g bad) {o : Nat} (ho : o < 261) {v : Value} {p' : Nat} {l' g' : Bool} {bad' : Int} (hle : p' <= d.length) (hs : (fun j => if j = o then v else scF d p l g bad j) = scF d p' l' g' bad') {K : World -> Prop}
    (hK : ∀ w', Sc w0 w' b d p' l' g' bad' -> Fr (· = b) w w' -> K w') : st1 ((⟨b, 0, none⟩ : Addr).add o) v w K := by
  rw [add_def, Nat.zero_add]
  refine st1_intro h.blk (by rw [arrF_size]; exact ho) fun w' hw' hb' => ?_
  rw [arrF_set, hs] at hb'
  have hf : Fr (· = b) w w' := by rw [hw']; exact Fr.setCell w ⟨b, o, none⟩ v
  exact hK w' ⟨Pu.andNew h.since hf (fun i hi => by rw [show i = b from hi]; exact h.new), h.new, hb', hle, h.lim⟩ hf
theorem Sc.st_at (h : Sc w0 w b d p l g bad) {p' : Nat} (hle : p' <= d.length) {n : Int} (hn : n = (p' : Int)) {K : World -> Prop} (hK : ∀ w', Sc w0 w' b d p' l g bad -> Fr (· = b) w w' -> K w') : ptrE (some (⟨b, 0, none⟩ : Addr)) fun a => st1 (a.add 1) (.int .i64 n) w K := by
  subst hn
  show st1 _ _ _ _
  refine h.st (by omega) hle ?_ hK
  funext j; unfold scF
  by_cases e : j = 1
  · subst e; rfl
  · simp only [if_neg e]
theorem Sc.st_ln (h : Sc w0 w b d p l g bad) {l' : Bool} {K : World -> Prop} (hK : ∀ w', Sc w0 w' b d p l' g bad -> Fr (· = b) w w' -> K w') : ptrE (some (⟨b, 0, none⟩ : Addr)) fun a => st1 (a.add 258) (.bool l') w K := by
  show st1 _ _ _ _
  refine h.st (by omega) h.le ?_ hK
  funext j; unfold scF
  by_cases e : j = 258
  · subst e; rfl
  · simp only [if_neg e]
theorem Sc.st_bg (h : Sc w0 w b d p l g bad) {g' : Bool} {K : World -> Prop} (hK : ∀ w', Sc w0 w' b d p l g' bad -> Fr (· = b) w w' -> K w') : ptrE (some (⟨b, 0, none⟩ : Addr)) fun a => st1 (a.add 259) (.bool g') w K := by
  show st1 _ _ _ _
  refine h.st (by omega) h.le ?_ hK
  funext j; unfold scF
  by_cases e : j = 259
  · subst e; rfl
  · simp only [if_neg e]
theorem Sc.st_bd (h : Sc w0 w b d p l g bad) {bad' : Int} {K : World -> Prop} (hK : ∀ w', Sc w0 w' b d p l g bad' -> Fr (· = b) w w' -> K w') : ptrE (some (⟨b, 0, none⟩ : Addr)) fun a => st1 (a.add 260) (.int .i64 bad') w K := by
  show st1 _ _ _ _
  refine h.st (by omega) h.le ?_ hK
  funext j; unfold scF
  by_cases e : j = 260
  · subst e; rfl
  · simp only [if_neg e]
theorem frb (h : Fr (· = b) w w') {w2 : World} (k : Fr (· = b) w' w2) : Fr (· = b) w w2 := h.trans k fun _ hi _ => hi
theorem frp (h : Fr (· = b) w w') {w2 : World} (k : Pu w' w2) : Fr (· = b) w w2 := h.trans (Fr.pu k : Fr (· = b) w' w2) fun _ hi _ => hi
theorem pfr (h : Pu w w') {w2 : World} (k : Fr (· = b) w' w2) : Fr (· = b) w w2 := (Fr.pu h : Fr (· = b) w w').trans k fun _ hi _ => hi
def clsAt (d : List UInt8) (k c : Nat) : Bool := match d[k]? with
  | some x => decide (clsN x.toNat = c)
  | none => false
theorem is_c (h : Sc w0 w b d p l g bad) (k c : Nat) : Calls Tryd.prog 62 #[.pointer (some ⟨b, 0, none⟩), .int .i64 (k : Int), .int .u8 (c : Int)] w fun e w' => e = .returned (.bool (clsAt d k c)) /\ Pu w w' := by
  refine F62_calls _ _ _ w _ (dwE_intro fun w1 hp1 _ => ⟨_, (h.pu hp1).s, Br.of (fun q => ⟨_, (h.pu hp1).s, ?_⟩) (fun q => ⟨?_, hp1⟩)⟩)
  · have q := dtrue q
    rw [bs_size_i] at q
    obtain ⟨x, hx⟩ := at_k (l := d) (k := k) (by omega)
    have hlt := x.toNat_lt
    refine ⟨x, by omega, by rw [toNat_i]; exact bs_get hx, by omega, by omega, _, (h.pu hp1).cls x, ?_, hp1⟩
    unfold clsAt
    rw [hx]
    congr 2
    show ((clsN x.toNat : Int) == (c : Int)) = decide (clsN x.toNat = c)
    rw [beq_dec]; exact dec_eq (by omega)
  · have q := dfalse q
    rw [bs_size_i] at q
    unfold clsAt
    rw [List.getElem?_eq_none (by omega)]
theorem clsAt_blk (d : List UInt8) (k : Nat) : clsAt d k 3 = match d[k]? with | some x => blkB x | none => false := by
  unfold clsAt; cases d[k]? with
  | none => rfl
  | some x => exact (cls_b x).1
theorem clsAt_let (d : List UInt8) (k : Nat) : clsAt d k 1 = match d[k]? with | some x => letB x | none => false := by
  unfold clsAt; cases d[k]? with
  | none => rfl
  | some x => exact (cls_b x).2.1
theorem clsAt_dig (d : List UInt8) (k : Nat) : clsAt d k 2 = match d[k]? with | some x => digB x | none => false := by
  unfold clsAt; cases d[k]? with
  | none => rfl
  | some x => exact (cls_b x).2.2.1
theorem clsAt_wr (d : List UInt8) (k : Nat) : clsAt d k 4 = match d[k]? with | some x => !isB x | none => false := by
  unfold clsAt; cases d[k]? with
  | none => rfl
  | some x => exact (cls_b x).2.2.2
theorem head_test {f : UInt8 -> Bool} {d : List UInt8} {p k : Nat} (hk : k <= ((d.drop p).takeWhile f).length) : (match d[p + k]? with | some x => f x | none => false) = decide (k < ((d.drop p).takeWhile f).length) := by
  by_cases h : k < ((d.drop p).takeWhile f).length
  · obtain ⟨x, hx, hf⟩ := tw_lt h
    rw [get_drop] at hx
    rw [hx, decide_eq_true h]; exact hf
  · have e : k = ((d.drop p).takeWhile f).length := by omega
    rw [decide_eq_false h]
    cases hx : d[p + k]? with
    | none => rfl
    | some x => exact tw_end (l := d.drop p) (by rw [← e, get_drop]; exact hx)
theorem tw_drop_le (f : UInt8 -> Bool) (d : List UInt8) (p : Nat) (hp : p <= d.length) : p + ((d.drop p).takeWhile f).length <= d.length := by
  have := tw_le f (d.drop p)
  rw [List.length_drop] at this; omega
def blkN (r : List UInt8) : Nat := (r.takeWhile blkB).length
theorem skip_c (h : Sc w0 w b d p l g bad) : Calls Tryd.prog 51 #[.pointer (some ⟨b, 0, none⟩)] w fun e w' => e = .returned (.tuple #[]) /\ Sc w0 w' b d (p + blkN (d.drop p)) l g bad /\ Fr (· = b) w w' := by
  have hle := tw_drop_le blkB d p h.le
  have hlim := h.lim
  refine F51_calls _ w _ (loopUp (blkN (d.drop p)) (fun k _ w' => Sc w0 w' b d (p + k) l g bad /\ Fr (· = b) w w') ⟨h, Fr.refl _ _⟩ ?_)
  rintro k J _ w1 hk ⟨h1, hf1⟩ hJ
  have ht := head_test (f := blkB) (d := d) (p := p) hk
  refine ⟨_, h1.at_, (is_c h1 (p + k) 3).mono ?_⟩
  rintro e w2 ⟨rfl, hp2⟩
  rw [clsAt_blk, ht]
  have h2 := h1.pu hp2
  refine ⟨_, rfl, Br.of (fun q => ?_) (fun q => ?_)⟩
  · have q := dtrue q
    refine ⟨_, h2.at_, h2.st_at (p' := p + (k + 1)) (by unfold blkN at *; omega) (by rw [wrap_in (by omega) (by omega)]; omega) fun w3 h3 hf3 => hJ _ _ q ⟨h3, frb (frp hf1 hp2) hf3⟩⟩
  · have q := dfalse q
    have e : k = blkN (d.drop p) := by unfold blkN at *; omega
    subst e
    exact ⟨rfl, h2, frp hf1 hp2⟩
theorem nl_iff (b : UInt8) : (!decide (b = (10 : UInt8))) = !nlB b := by
  unfold nlB
  congr 1
  exact dec_eq ⟨fun h => by rw [h]; rfl, fun h => UInt8.toNat_inj.1 h⟩
theorem lineOf_eq (r : List UInt8) : (r.takeWhile fun b => !decide (b = (10 : UInt8))) = lineOf r := by
  unfold lineOf
  congr 1
  funext b; exact nl_iff b
def lnN (r : List UInt8) : Nat := (lineOf r).length
theorem lnN_le (r : List UInt8) : lnN r <= r.length := tw_le _ r
theorem lineEnd_c (h : Sc w0 w b d p l g bad) {q : Nat} (hq : q <= d.length) : Calls Tryd.prog 63 #[.pointer (some ⟨b, 0, none⟩), .int .i64 (q : Int)] w fun e w' => e = .returned (.int .i64 ((q + lnN (d.drop q) : Nat) : Int)) /\ w' = w := by
  have hlim := h.lim
  have hl := lnN_le (d.drop q)
  rw [List.length_drop] at hl
  refine F63_calls _ _ w _ ⟨_, h.s, Nat.le_refl _, by omega, by rw [bs_size, toNat_i]; exact hq, ?_⟩
  rw [toNat_i, extract_drop]
  refine (indexByte_c (d.drop q) 10 w).mono ?_
  rintro e w1 ⟨rfl, rfl⟩
  have hi := indexByte_tw 10 (d.drop q)
  rw [lineOf_eq] at hi
  have e10 : ((10 : Int).toNat.toUInt8) = (10 : UInt8) := rfl
  rw [e10, hi]
  refine ⟨_, rfl, ?_⟩
  show Br (decide ((if lnN (d.drop q) < (d.drop q).length then ((lnN (d.drop q) : Nat) : Int) else -1) ≥ 0)) _ _
  by_cases hlt : lnN (d.drop q) < (d.drop q).length
  · rw [if_pos hlt]
    refine Br.t (decide_eq_true (by omega)) ⟨?_, rfl⟩
    rw [show (if (lineOf (d.drop q)).length < (d.drop q).length then (((lineOf (d.drop q)).length : Nat) : Int) else -1) = ((lnN (d.drop q) : Nat) : Int) from if_pos hlt]
    rw [wrap_in (by omega) (by omega)]
    congr 3
  · rw [if_neg hlt]
    refine Br.f (decide_eq_false (by omega)) ⟨_, h.s, ?_, rfl⟩
    rw [bs_size_i]
    congr 3
    rw [List.length_drop] at hlt
    omega
end Go.Proofs.YtlogipcgejfnnaaDoor

/- Lex: how the scanner goes over comments, over lines that go on, and over ends of lines. No condition but those stated. -/
set_option maxRecDepth 100000
set_option linter.unusedVariables false
set_option linter.unusedSimpArgs false
namespace Go.Proofs.YtlogipcgejfnnaaDoor
open Go.Sh Go.Sh.Lx Go.RowKit
variable {w0 w w' : World} {b p : Nat} {d : List UInt8} {l g : Bool} {bad : Int}
theorem badAt_of {l : List UInt8} {i : Nat} {x : UInt8} (hx : l[i]? = some x) (hb : isB x = false) (hall : ∀ j, j < i -> ∀ y, l[j]? = some y -> isB y = true) : badAt l = some i := by
  unfold badAt
  rw [List.findIdx?_eq_some_iff_getElem]
  obtain ⟨h1, h2⟩ := List.getElem?_eq_some_iff.1 hx
  refine ⟨h1, by rw [h2, hb]; rfl, fun j hj => ?_⟩
  have := hall j hj _ (List.getElem?_eq_getElem (by omega))
  rw [this]; simp
theorem badAt_none {l : List UInt8} (hall : ∀ (j : Nat) (y : UInt8), l[j]? = some y -> isB y = true) : badAt l = none := by
  unfold badAt
  rw [List.findIdx?_eq_none_iff]
  intro x hx
  obtain ⟨j, hj⟩ := List.mem_iff_getElem?.1 hx
  rw [hall j x hj]; rfl
theorem badAt_cons_ok {x : UInt8} {l : List UInt8} (h : isB x = true) : badAt (x :: l) = (badAt l).map (· + 1) := by
  unfold badAt
  rw [List.findIdx?_cons, h]; rfl
theorem lineOf_get {r : List UInt8} {k : Nat} (hk : k < lnN r) : (lineOf r)[k]? = r[k]? := by
  have h : (r.take (lnN r))[k]? = r[k]? := by rw [List.getElem?_take, if_pos hk]
  rw [← h]; congr 1
  exact (tw_take _ r).symm
theorem comment_c (h : Sc w0 w b d p l g bad) : Calls Tryd.prog 53 #[.pointer (some ⟨b, 0, none⟩)] w fun e w' => Fr (· = b) w w' /\ match badAt (lineOf (d.drop p)) with
    | some i => e = .returned (.bool false) /\ Sc w0 w' b d (p + i) l g ((p + i : Nat) : Int)
    | none => e = .returned (.bool true) /\ Sc w0 w' b d (p + lnN (d.drop p)) l g bad := by
  have hle := lnN_le (d.drop p)
  rw [List.length_drop] at hle
  have hlim := h.lim
  have hpl := h.le
  refine F53_calls _ w _ ⟨_, h.at_, (lineEnd_c h h.le).mono ?_⟩
  rintro e w1 ⟨rfl, rfl⟩
  refine ⟨_, rfl, loopUp (lnN (d.drop p)) (fun k _ w' => Sc w0 w' b d (p + k) l g bad /\ Fr (· = b) w1 w' /\ ∀ j, j < k -> ∀ y, (lineOf (d.drop p))[j]? = some y -> isB y = true) ⟨h, Fr.refl _ _, fun j hj => by omega⟩ ?_⟩
  rintro k J _ w2 hk ⟨h2, hf2, hall⟩ hJ
  refine ⟨_, h2.at_, Br.of (fun q => ?_) (fun q => ?_)⟩
  · have q := dtrue q
    have hk2 : k < lnN (d.drop p) := by omega
    obtain ⟨x, hx⟩ := at_k (l := d) (k := p + k) (by omega)
    have hgx : (lineOf (d.drop p))[k]? = some x := by rw [lineOf_get hk2, get_drop]; exact hx
    refine ⟨_, h2.at_, (is_c h2 (p + k) 4).mono ?_⟩
    rintro e w3 ⟨rfl, hp3⟩
    have h3 := h2.pu hp3
    have hc : clsAt d (p + k) 4 = !isB x := by rw [clsAt_wr, hx]
    rw [hc]
    refine ⟨_, rfl, Br.of (fun q2 => ?_) (fun q2 => ?_)⟩
    · have hb : isB x = false := by simpa using q2
      refine ⟨_, h3.at_, h3.st_bd fun w4 h4 hf4 => ⟨frb (frp hf2 hp3) hf4, ?_⟩⟩
      rw [badAt_of hgx hb hall]
      exact ⟨rfl, h4⟩
    · have hb : isB x = true := by simpa using q2
      refine ⟨_, h3.at_, h3.st_at (p' := p + (k + 1)) (by omega) (by rw [wrap_in (by omega) (by omega)]; omega) fun w4 h4 hf4 => hJ _ _ hk2 ⟨h4, frb (frp hf2 hp3) hf4, fun j hj y hy => ?_⟩⟩
      by_cases e : j = k
      · subst e; rw [hgx] at hy; cases hy; exact hb
      · exact hall j (by omega) y hy
  · have q := dfalse q
    have e : k = lnN (d.drop p) := by omega
    subst e
    refine ⟨hf2, ?_⟩
    rw [badAt_none fun j y hy => hall j (by have := (List.getElem?_eq_some_iff.1 hy).1; exact this) y hy]
    exact ⟨rfl, h2⟩
theorem blk_isB {x : UInt8} (h : blkB x = true) : isB x = true /\ nlB x = false := by
  have : ∀ n : Nat, n < 256 -> blkB (UInt8.ofNat n) = true -> isB (UInt8.ofNat n) = true /\ nlB (UInt8.ofNat n) = false := by decide +kernel
  have h2 := this x.toNat x.toNat_lt
  rw [UInt8.ofNat_toNat] at h2
  exact h2 h
theorem lnN_blk : ∀ r : List UInt8, lnN r = blkN r + lnN (r.drop (blkN r)) /\ badAt (lineOf r) = (badAt (lineOf (r.drop (blkN r)))).map (· + blkN r)
  | [] => ⟨rfl, rfl⟩
  | x :: r => by
    obtain ⟨i1, i2⟩ := lnN_blk r
    by_cases hx : blkB x = true
    · obtain ⟨h1, h2⟩ := blk_isB hx
      have e1 : blkN (x :: r) = blkN r + 1 := by unfold blkN; rw [List.takeWhile_cons, if_pos hx]; rfl
      have e2 : lineOf (x :: r) = x :: lineOf r := by unfold lineOf; rw [List.takeWhile_cons, if_pos (by rw [h2]; rfl)]
      have e3 : lnN (x :: r) = lnN r + 1 := by unfold lnN; rw [e2]; rfl
      rw [e3, e2, e1, List.drop_succ_cons, badAt_cons_ok h1, i2]
      refine ⟨by omega, ?_⟩
      cases badAt (lineOf (r.drop (blkN r))) <;> rfl
    · have e1 : blkN (x :: r) = 0 := by unfold blkN; rw [List.takeWhile_cons, if_neg hx]; rfl
      rw [e1, List.drop_zero]
      refine ⟨by omega, ?_⟩
      cases badAt (lineOf (x :: r)) <;> rfl
theorem goesB_eq (r : List UInt8) : goesB r = match r.drop (blkN r) with
    | [] => true
    | b :: t => nlB b || ampB (b :: t) := by
  unfold goesB blkN
  have h := tw_drop blkB r
  generalize r.drop (r.takeWhile blkB).length = z at h ⊢
  subst h
  cases List.dropWhile blkB r <;> rfl
theorem ampB_take (l : List UInt8) : decide (l.take 2 = [38, 38]) = ampB l := by
  match l with
  | [] => rfl
  | [a] => simp [ampB]
  | a :: b :: t =>
    show _ = (decide (a.toNat = 38) && decide (b.toNat = 38))
    rw [← Bool.decide_and]
    apply dec_eq
    simp only [List.take_succ_cons, List.take_zero, List.cons.injEq, and_true]
    constructor
    · rintro ⟨rfl, rfl⟩; exact ⟨rfl, rfl⟩
    · rintro ⟨h1, h2⟩; exact ⟨UInt8.toNat_inj.1 h1, UInt8.toNat_inj.1 h2⟩
theorem amp_c (r : List UInt8) (w : World) : Calls Tryd.prog 26 #[.string (bs r), .string (⟨#[38, 38]⟩ : ByteArray)] w fun e w' => e = .returned (.bool (ampB r)) /\ w' = w := by
  refine (hasPrefix_c r [38, 38] w).mono ?_
  rintro e w' ⟨rfl, rfl⟩
  refine ⟨?_, rfl⟩
  rw [← ampB_take]; rfl
def goN (r : List UInt8) : Nat := if lnN r < r.length then lnN r + 1 else lnN r
theorem goN_le (r : List UInt8) : goN r <= r.length := by unfold goN; have := lnN_le r; split <;> omega
theorem continues_c {x : UInt8} {r : List UInt8} (h : Sc w0 w b d p l g bad) (hd : d.drop p = x :: r) : Calls Tryd.prog 54 #[.pointer (some ⟨b, 0, none⟩)] w fun e w' => Fr (· = b) w w' /\
    if goesB r = false then e = .returned (.tuple #[.bool false, .bool true]) /\ Sc w0 w' b d p l g bad else match badAt (lineOf r) with
    | some i => ∃ p', e = .returned (.tuple #[.bool true, .bool false]) /\ Sc w0 w' b d p' l g ((p + 1 + i : Nat) : Int)
    | none => e = .returned (.tuple #[.bool true, .bool true]) /\ Sc w0 w' b d (p + 1 + goN r) l g bad := by
  have hlim := h.lim
  have hdl : (d.drop p).length = r.length + 1 := by rw [hd]; rfl
  rw [List.length_drop] at hdl
  have hr : d.drop (p + 1) = r := by rw [← List.drop_drop, hd]; rfl
  obtain ⟨hln, hbd⟩ := lnN_blk r
  have hm : blkN r <= r.length := tw_le blkB r
  obtain ⟨m, hmm⟩ : ∃ m, m = blkN r := ⟨_, rfl⟩
  rw [← hmm] at hln hbd hm
  have hrm : d.drop (p + 1 + m) = r.drop m := by rw [← hr, List.drop_drop]
  have hlnm := lnN_le (r.drop m)
  rw [List.length_drop] at hlnm
  refine F54_calls _ w _ ⟨_, h.at_, ?_⟩
  rw [wrap_in (by omega) (by omega)]
  have fin : ∀ {w2 : World}, Sc w0 w2 b d (p + 1 + lnN r) l g bad -> Fr (· = b) w w2 -> badAt (lineOf r) = none -> F54_1 (fun e w' => Fr (· = b) w w' /\ if goesB r = false then e = .returned (.tuple #[.bool false, .bool true]) /\ Sc w0 w' b d p l g bad else match badAt (lineOf r) with
      | some i => ∃ p', e = .returned (.tuple #[.bool true, .bool false]) /\ Sc w0 w' b d p' l g ((p + 1 + i : Nat) : Int)
      | none => e = .returned (.tuple #[.bool true, .bool true]) /\ Sc w0 w' b d (p + 1 + goN r) l g bad) (some ⟨b, 0, none⟩) [] w2 ∨ goesB r = false := fun {w2} h2 hf2 hn => by
    by_cases hg : goesB r = false
    · exact .inr hg
    · refine .inl (dwE_intro fun w3 hp3 _ => ?_)
      have h3 := h2.pu hp3
      refine ⟨_, h3.at_, _, h3.s, Br.of (fun q => ?_) (fun q => ?_)⟩
      · have q := dtrue q
        rw [bs_size_i] at q
        refine ⟨_, h3.at_, h3.st_at (p' := p + 1 + (lnN r + 1)) (by omega) (by rw [wrap_in (by omega) (by omega)]; omega) fun w4 h4 hf4 => ⟨frb (frp hf2 hp3) hf4, ?_⟩⟩
        rw [if_neg hg, hn]
        refine ⟨rfl, ?_⟩
        unfold goN; rw [if_pos (by omega)]; exact h4
      · have q := dfalse q
        rw [bs_size_i] at q
        refine ⟨frp hf2 hp3, ?_⟩
        rw [if_neg hg, hn]
        refine ⟨rfl, ?_⟩
        unfold goN; rw [if_neg (by omega)]; exact h3
  -- the comment, from behind the blanks
  have com : ∀ {w2 w3 : World} (hg : goesB r = true) {e : Ending}, Fr (· = b) w w2 -> (Fr (· = b) w2 w3 /\ match badAt (lineOf (d.drop (p + 1 + m))) with
      | some i => e = .returned (.bool false) /\ Sc w0 w3 b d (p + 1 + m + i) l g ((p + 1 + m + i : Nat) : Int)
      | none => e = .returned (.bool true) /\ Sc w0 w3 b d (p + 1 + m + lnN (d.drop (p + 1 + m))) l g bad) ->
      ∃ b49 : Bool, e = .returned (.bool b49) /\ Br (!b49) (Fr (· = b) w w3 /\ if goesB r = false then Ending.returned (.tuple #[.bool true, .bool false]) = .returned (.tuple #[.bool false, .bool true]) /\ Sc w0 w3 b d p l g bad else match badAt (lineOf r) with
      | some i => ∃ p', Ending.returned (.tuple #[.bool true, .bool false]) = .returned (.tuple #[.bool true, .bool false]) /\ Sc w0 w3 b d p' l g ((p + 1 + i : Nat) : Int)
      | none => Ending.returned (.tuple #[.bool true, .bool false]) = .returned (.tuple #[.bool true, .bool true]) /\ Sc w0 w3 b d (p + 1 + goN r) l g bad) (F54_1 (fun e w' => Fr (· = b) w w' /\ if goesB r = false then e = .returned (.tuple #[.bool false, .bool true]) /\ Sc w0 w' b d p l g bad else match badAt (lineOf r) with
      | some i => ∃ p', e = .returned (.tuple #[.bool true, .bool false]) /\ Sc w0 w' b d p' l g ((p + 1 + i : Nat) : Int)
      | none => e = .returned (.tuple #[.bool true, .bool true]) /\ Sc w0 w' b d (p + 1 + goN r) l g bad) (some ⟨b, 0, none⟩) [] w3) := fun {w2 w3} hg {e} hf2 ⟨hf3, hm3⟩ => by
    rw [hrm] at hm3
    have hng : ¬ goesB r = false := by rw [hg]; simp
    cases hb : badAt (lineOf (r.drop m)) with
    | some i =>
      rw [hb] at hm3 hbd
      obtain ⟨rfl, h3⟩ := hm3
      refine ⟨_, rfl, ⟨frb hf2 hf3, ?_⟩⟩
      rw [if_neg hng, hbd]
      exact ⟨_, rfl, by rw [show p + 1 + (i + m) = p + 1 + m + i by omega]; exact h3⟩
    | none =>
      rw [hb] at hm3 hbd
      obtain ⟨rfl, h3⟩ := hm3
      refine ⟨_, rfl, (fin (by rw [hln, ← Nat.add_assoc]; exact h3) (frb hf2 hf3) hbd).resolve_right hng⟩
  refine loopUp m (fun k t w' => t = ((p + 1 + k : Nat) : Int) /\ Sc w0 w' b d p l g bad /\ Fr (· = b) w w') ⟨by omega, h, Fr.refl _ _⟩ ?_
  rintro k J t w1 hk ⟨rfl, h1, hf1⟩ hJ
  have ht := head_test (f := blkB) (d := d) (p := p + 1) (k := k) (by rw [hr]; show k <= blkN r; omega)
  refine (is_c h1 (p + 1 + k) 3).mono ?_
  rintro e w2 ⟨rfl, hp2⟩
  rw [clsAt_blk, ht, hr]
  have h2 := h1.pu hp2
  have hf2 := frp hf1 hp2
  refine ⟨_, rfl, Br.of (fun q => ?_) (fun q => ?_)⟩
  · have q : k < blkN r := dtrue q
    rw [wrap_in (by omega) (by omega)]
    exact hJ _ _ (by omega) ⟨by omega, h2, hf2⟩
  · have q : ¬ k < blkN r := dfalse q
    obtain rfl : k = m := by omega
    have hgo := goesB_eq r
    rw [← hmm] at hgo
    refine ⟨_, h2.s, Br.of (fun q1 => ?_) (fun q1 => ?_)⟩
    · have q1 := btrue q1
      rw [bs_size_i] at q1
      have hnil : r.drop k = [] := List.drop_eq_nil_of_le (by omega)
      rw [hnil] at hgo
      exact h2.st_at (p' := p + 1 + k) (by omega) rfl fun w3 h3 hf3 => (comment_c h3).mono fun e w4 h4 => com hgo (frb hf2 hf3) h4
    · have q1 := bfalse q1
      rw [bs_size_i] at q1
      obtain ⟨y, hy⟩ := at_k (l := d) (k := p + 1 + k) (by omega)
      have hyr : r.drop k = y :: r.drop (k + 1) := by
        rw [← hrm, drop_at hy, ← hr, List.drop_drop]; congr 2
      rw [hyr] at hgo
      have hgo : goesB r = (nlB y || ampB (y :: r.drop (k + 1))) := hgo
      have hy10 : (((y.toNat : Nat) : Int) == 10) = nlB y := by rw [beq_dec]; unfold nlB; exact dec_eq (by omega)
      refine ⟨_, h2.s, y, by omega, by rw [toNat_i]; exact bs_get hy, ?_⟩
      rw [hy10]
      refine Br.of (fun q2 => ?_) (fun q2 => ?_)
      · have q2 : nlB y = false := by simpa using q2
        refine ⟨_, h2.s, Nat.le_refl _, by omega, by rw [toNat_i, bs_size]; omega, ?_⟩
        rw [toNat_i, extract_drop, hrm]
        refine (amp_c _ w2).mono ?_
        rintro e w3 ⟨rfl, rfl⟩
        rw [hyr]
        have hgo : goesB r = ampB (y :: r.drop (k + 1)) := by rw [hgo, q2, Bool.false_or]
        refine ⟨_, rfl, Br.of (fun q3 => ?_) (fun q3 => ?_)⟩
        · have q3 : ampB (y :: r.drop (k + 1)) = false := by simpa using q3
          rw [q3] at hgo
          refine ⟨hf2, ?_⟩
          rw [if_pos hgo]
          exact ⟨rfl, h2⟩
        · have q3 : ampB (y :: r.drop (k + 1)) = true := by simpa using q3
          rw [q3] at hgo
          exact h2.st_at (p' := p + 1 + k) (by omega) rfl fun w3 h3 hf3 => (comment_c h3).mono fun e w4 h4 => com hgo (frb hf2 hf3) h4
      · have q2 : nlB y = true := by simpa using q2
        have hgo : goesB r = true := by rw [hgo, q2, Bool.true_or]
        exact h2.st_at (p' := p + 1 + k) (by omega) rfl fun w3 h3 hf3 => (comment_c h3).mono fun e w4 h4 => com hgo (frb hf2 hf3) h4
end Go.Proofs.YtlogipcgejfnnaaDoor

/- Contracts of the library at this dump, laid by the shelf. No condition but those that each states. -/
namespace Go.Proofs
open Go.Shelf Go.Lib
def Tryd.lays158_ren : Go.Shelf.Ren := ⟨fun | 158 => 64 | 165 => 75 | 166 => 36 | 167 => 35 | 169 => 38 | 230 => 76 | 203 => 77 | 240 => 56 | 241 => 85 | 197 => 59 | 118 => 86 | 168 => 87 | 270 => 88 | 262 => 89 | 276 => 69 | 277 => 94 | 260 => 71 | 242 => 95 | 313 => 96 | 278 => 101 | 274 => 102 | 275 => 103 | n => n, fun | 9 => 9 | 4 => 4 | 3 => 3 | 5 => 5 | 72 => 63 | 0 => 0 | 76 => 67 | 75 => 65 | 107 => 100 | 70 => 60 | 20 => 20 | 37 => 61 | 127 => 83 | 21 => 21 | 105 => 84 | 164 => 93 | 162 => 120 | 203 => 118 | 119 => 37 | 46 => 104 | 139 => 107 | 138 => 106 | 51 => 122 | 160 => 125 | 208 => 133 | 206 => 131 | 80 => 70 | n => n, fun | 13 => 3 | 3 => 0 | 4 => 1 | n => n⟩
theorem Tryd.lays158 : Go.Proofs.Lays.n158 Tryd.prog Tryd.lays158_ren := {
  mixed := by kernel_rfl
  f118 := Tryd.func86.trans (congrArg some (by kernel_rfl))
  f158 := Tryd.func64.trans (congrArg some (by kernel_rfl))
  f165 := Tryd.func75.trans (congrArg some (by kernel_rfl))
  f166 := Tryd.func36.trans (congrArg some (by kernel_rfl))
  f167 := Tryd.func35.trans (congrArg some (by kernel_rfl))
  f168 := Tryd.func87.trans (congrArg some (by kernel_rfl))
  f169 := Tryd.func38.trans (congrArg some (by kernel_rfl))
  f197 := Tryd.func59.trans (congrArg some (by kernel_rfl))
  f203 := Tryd.func77.trans (congrArg some (by kernel_rfl))
  f230 := Tryd.func76.trans (congrArg some (by kernel_rfl))
  f240 := Tryd.func56.trans (congrArg some (by kernel_rfl))
  f241 := Tryd.func85.trans (congrArg some (by kernel_rfl))
  f242 := Tryd.func95.trans (congrArg some (by kernel_rfl))
  f260 := Tryd.func71.trans (congrArg some (by kernel_rfl))
  f262 := Tryd.func89.trans (congrArg some (by kernel_rfl))
  f270 := Tryd.func88.trans (congrArg some (by kernel_rfl))
  f274 := Tryd.func102.trans (congrArg some (by kernel_rfl))
  f275 := Tryd.func103.trans (congrArg some (by kernel_rfl))
  f276 := Tryd.func69.trans (congrArg some (by kernel_rfl))
  f277 := Tryd.func94.trans (congrArg some (by kernel_rfl))
  f278 := Tryd.func101.trans (congrArg some (by kernel_rfl))
  f313 := Tryd.func96.trans (congrArg some (by kernel_rfl))
  t0 := Tryd.underlying0
  a0 := Tryd.isAgg0
  z0 := Tryd.sizeOf0
  v0 := Tryd.zeroValue0
  t3 := Tryd.underlying3
  a3 := Tryd.isAgg3
  z3 := Tryd.sizeOf3
  v3 := Tryd.zeroValue3
  t4 := Tryd.underlying4
  a4 := Tryd.isAgg4
  z4 := Tryd.sizeOf4
  v4 := Tryd.zeroValue4
  t5 := Tryd.underlying5
  a5 := Tryd.isAgg5
  z5 := Tryd.sizeOf5
  v5 := Tryd.zeroValue5
  t9 := Tryd.underlying9
  a9 := Tryd.isAgg9
  z9 := Tryd.sizeOf9
  v9 := Tryd.zeroValue9
  t20 := Tryd.underlying20
  a20 := Tryd.isAgg20
  z20 := Tryd.sizeOf20
  v20 := Tryd.zeroValue20
  t21 := Tryd.underlying21
  a21 := Tryd.isAgg21
  z21 := Tryd.sizeOf21
  v21 := Tryd.zeroValue21
  t37 := Tryd.underlying61
  a37 := Tryd.isAgg61
  z37 := Tryd.sizeOf61
  v37 := Tryd.zeroValue61
  t46 := Tryd.underlying104
  a46 := Tryd.isAgg104
  z46 := Tryd.sizeOf104
  v46 := Tryd.zeroValue104
  t51 := Tryd.underlying122
  a51 := Tryd.isAgg122
  z51 := Tryd.sizeOf122
  v51 := Tryd.zeroValue122
  t70 := Tryd.underlying60
  a70 := Tryd.isAgg60
  z70 := Tryd.sizeOf60
  v70 := Tryd.zeroValue60
  t72 := Tryd.underlying63
  a72 := Tryd.isAgg63
  z72 := Tryd.sizeOf63
  v72 := Tryd.zeroValue63
  t75 := Tryd.underlying65
  a75 := Tryd.isAgg65
  z75 := Tryd.sizeOf65
  v75 := Tryd.zeroValue65
  t76 := Tryd.underlying67
  a76 := Tryd.isAgg67
  z76 := Tryd.sizeOf67
  v76 := Tryd.zeroValue67
  t105 := Tryd.underlying84
  a105 := Tryd.isAgg84
  z105 := Tryd.sizeOf84
  v105 := Tryd.zeroValue84
  t107 := Tryd.underlying100
  a107 := Tryd.isAgg100
  z107 := Tryd.sizeOf100
  v107 := Tryd.zeroValue100
  t119 := Tryd.underlying37
  a119 := Tryd.isAgg37
  z119 := Tryd.sizeOf37
  t127 := Tryd.underlying83
  a127 := Tryd.isAgg83
  z127 := Tryd.sizeOf83
  v127 := Tryd.zeroValue83
  t138 := Tryd.underlying106
  a138 := Tryd.isAgg106
  z138 := Tryd.sizeOf106
  v138 := Tryd.zeroValue106
  t139 := Tryd.underlying107
  a139 := Tryd.isAgg107
  z139 := Tryd.sizeOf107
  v139 := Tryd.zeroValue107
  t160 := Tryd.underlying125
  a160 := Tryd.isAgg125
  z160 := Tryd.sizeOf125
  v160 := Tryd.zeroValue125
  t162 := Tryd.underlying120
  a162 := Tryd.isAgg120
  z162 := Tryd.sizeOf120
  v162 := Tryd.zeroValue120
  t164 := Tryd.underlying93
  a164 := Tryd.isAgg93
  z164 := Tryd.sizeOf93
  v164 := Tryd.zeroValue93
  t203 := Tryd.underlying118
  a203 := Tryd.isAgg118
  z203 := Tryd.sizeOf118
  v203 := Tryd.zeroValue118
  t206 := Tryd.underlying131
  a206 := Tryd.isAgg131
  z206 := Tryd.sizeOf131
  v206 := Tryd.zeroValue131
  t208 := Tryd.underlying133
  a208 := Tryd.isAgg133
  z208 := Tryd.sizeOf133
  v208 := Tryd.zeroValue133
  g3 := by kernel_rfl
  g4 := by kernel_rfl
  g13 := by kernel_rfl }
theorem Tryd.Builder_Extra_158 : Builder.Extra Tryd.prog Tryd.lays158_ren := {
  sizeBuilder := by kernel_rfl
  liesBuilder := by kernel_rfl
  t5 := Tryd.underlying5
  a5 := Tryd.isAgg5
  z5 := Tryd.sizeOf5
  v5 := Tryd.zeroValue5
  infoByte := by kernel_rfl
  cellsByte := by kernel_rfl
  sizeByte := by kernel_rfl
  neB5 := by decide }
def Tryd.lays161_ren : Go.Shelf.Ren := ⟨fun | 161 => 99 | 231 => 42 | 227 => 44 | 233 => 45 | 235 => 47 | 228 => 58 | 197 => 59 | 151 => 60 | 260 => 71 | 152 => 72 | 137 => 74 | 119 => 81 | 224 => 82 | 225 => 83 | 217 => 84 | 266 => 93 | n => n, fun | 9 => 9 | 4 => 4 | 3 => 3 | 5 => 5 | 117 => 76 | 116 => 75 | 0 => 0 | 124 => 79 | 105 => 84 | 21 => 21 | 119 => 37 | 46 => 104 | 139 => 107 | 138 => 106 | n => n, fun | 3 => 0 | 4 => 1 | n => n⟩
theorem Tryd.lays161 : Go.Proofs.Lays.n161 Tryd.prog Tryd.lays161_ren := {
  mixed := by kernel_rfl
  f119 := Tryd.func81.trans (congrArg some (by kernel_rfl))
  f137 := Tryd.func74.trans (congrArg some (by kernel_rfl))
  f151 := Tryd.func60.trans (congrArg some (by kernel_rfl))
  f152 := Tryd.func72.trans (congrArg some (by kernel_rfl))
  f161 := Tryd.func99.trans (congrArg some (by kernel_rfl))
  f197 := Tryd.func59.trans (congrArg some (by kernel_rfl))
  f217 := Tryd.func84.trans (congrArg some (by kernel_rfl))
  f224 := Tryd.func82.trans (congrArg some (by kernel_rfl))
  f225 := Tryd.func83.trans (congrArg some (by kernel_rfl))
  f227 := Tryd.func44.trans (congrArg some (by kernel_rfl))
  f228 := Tryd.func58.trans (congrArg some (by kernel_rfl))
  f231 := Tryd.func42.trans (congrArg some (by kernel_rfl))
  f233 := Tryd.func45.trans (congrArg some (by kernel_rfl))
  f235 := Tryd.func47.trans (congrArg some (by kernel_rfl))
  f260 := Tryd.func71.trans (congrArg some (by kernel_rfl))
  f266 := Tryd.func93.trans (congrArg some (by kernel_rfl))
  t0 := Tryd.underlying0
  a0 := Tryd.isAgg0
  z0 := Tryd.sizeOf0
  v0 := Tryd.zeroValue0
  t3 := Tryd.underlying3
  a3 := Tryd.isAgg3
  z3 := Tryd.sizeOf3
  v3 := Tryd.zeroValue3
  t4 := Tryd.underlying4
  a4 := Tryd.isAgg4
  z4 := Tryd.sizeOf4
  v4 := Tryd.zeroValue4
  t5 := Tryd.underlying5
  a5 := Tryd.isAgg5
  z5 := Tryd.sizeOf5
  v5 := Tryd.zeroValue5
  t9 := Tryd.underlying9
  a9 := Tryd.isAgg9
  z9 := Tryd.sizeOf9
  v9 := Tryd.zeroValue9
  t21 := Tryd.underlying21
  a21 := Tryd.isAgg21
  z21 := Tryd.sizeOf21
  v21 := Tryd.zeroValue21
  t46 := Tryd.underlying104
  a46 := Tryd.isAgg104
  z46 := Tryd.sizeOf104
  v46 := Tryd.zeroValue104
  t105 := Tryd.underlying84
  a105 := Tryd.isAgg84
  z105 := Tryd.sizeOf84
  v105 := Tryd.zeroValue84
  t116 := Tryd.underlying75
  a116 := Tryd.isAgg75
  z116 := Tryd.sizeOf75
  t117 := Tryd.underlying76
  a117 := Tryd.isAgg76
  z117 := Tryd.sizeOf76
  v117 := Tryd.zeroValue76
  t119 := Tryd.underlying37
  a119 := Tryd.isAgg37
  z119 := Tryd.sizeOf37
  t124 := Tryd.underlying79
  a124 := Tryd.isAgg79
  z124 := Tryd.sizeOf79
  v124 := Tryd.zeroValue79
  t138 := Tryd.underlying106
  a138 := Tryd.isAgg106
  z138 := Tryd.sizeOf106
  v138 := Tryd.zeroValue106
  t139 := Tryd.underlying107
  a139 := Tryd.isAgg107
  z139 := Tryd.sizeOf107
  v139 := Tryd.zeroValue107
  g3 := by kernel_rfl
  g4 := by kernel_rfl }
def Tryd.lays160_ren : Go.Shelf.Ren := ⟨fun | 160 => 30 | 232 => 43 | 231 => 42 | 227 => 44 | 234 => 46 | 233 => 45 | 236 => 48 | 235 => 47 | 228 => 58 | 271 => 61 | 151 => 60 | 197 => 59 | 120 => 73 | 152 => 72 | 260 => 71 | 137 => 74 | 119 => 81 | 224 => 82 | 225 => 83 | 217 => 84 | 266 => 93 | n => n, fun | 9 => 9 | 4 => 4 | 3 => 3 | 5 => 5 | 117 => 76 | 116 => 75 | 0 => 0 | 124 => 79 | 21 => 21 | 105 => 84 | 46 => 104 | 119 => 37 | 139 => 107 | 138 => 106 | n => n, fun | 3 => 0 | 4 => 1 | n => n⟩
theorem Tryd.lays160 : Go.Proofs.Lays.n160 Tryd.prog Tryd.lays160_ren := {
  mixed := by kernel_rfl
  f119 := Tryd.func81.trans (congrArg some (by kernel_rfl))
  f120 := Tryd.func73.trans (congrArg some (by kernel_rfl))
  f137 := Tryd.func74.trans (congrArg some (by kernel_rfl))
  f151 := Tryd.func60.trans (congrArg some (by kernel_rfl))
  f152 := Tryd.func72.trans (congrArg some (by kernel_rfl))
  f160 := Tryd.func30.trans (congrArg some (by kernel_rfl))
  f197 := Tryd.func59.trans (congrArg some (by kernel_rfl))
  f217 := Tryd.func84.trans (congrArg some (by kernel_rfl))
  f224 := Tryd.func82.trans (congrArg some (by kernel_rfl))
  f225 := Tryd.func83.trans (congrArg some (by kernel_rfl))
  f227 := Tryd.func44.trans (congrArg some (by kernel_rfl))
  f228 := Tryd.func58.trans (congrArg some (by kernel_rfl))
  f231 := Tryd.func42.trans (congrArg some (by kernel_rfl))
  f232 := Tryd.func43.trans (congrArg some (by kernel_rfl))
  f233 := Tryd.func45.trans (congrArg some (by kernel_rfl))
  f234 := Tryd.func46.trans (congrArg some (by kernel_rfl))
  f235 := Tryd.func47.trans (congrArg some (by kernel_rfl))
  f236 := Tryd.func48.trans (congrArg some (by kernel_rfl))
  f260 := Tryd.func71.trans (congrArg some (by kernel_rfl))
  f266 := Tryd.func93.trans (congrArg some (by kernel_rfl))
  f271 := Tryd.func61.trans (congrArg some (by kernel_rfl))
  t0 := Tryd.underlying0
  a0 := Tryd.isAgg0
  z0 := Tryd.sizeOf0
  v0 := Tryd.zeroValue0
  t3 := Tryd.underlying3
  a3 := Tryd.isAgg3
  z3 := Tryd.sizeOf3
  v3 := Tryd.zeroValue3
  t4 := Tryd.underlying4
  a4 := Tryd.isAgg4
  z4 := Tryd.sizeOf4
  v4 := Tryd.zeroValue4
  t5 := Tryd.underlying5
  a5 := Tryd.isAgg5
  z5 := Tryd.sizeOf5
  v5 := Tryd.zeroValue5
  t9 := Tryd.underlying9
  a9 := Tryd.isAgg9
  z9 := Tryd.sizeOf9
  v9 := Tryd.zeroValue9
  t21 := Tryd.underlying21
  a21 := Tryd.isAgg21
  z21 := Tryd.sizeOf21
  v21 := Tryd.zeroValue21
  t46 := Tryd.underlying104
  a46 := Tryd.isAgg104
  z46 := Tryd.sizeOf104
  v46 := Tryd.zeroValue104
  t105 := Tryd.underlying84
  a105 := Tryd.isAgg84
  z105 := Tryd.sizeOf84
  v105 := Tryd.zeroValue84
  t116 := Tryd.underlying75
  a116 := Tryd.isAgg75
  z116 := Tryd.sizeOf75
  t117 := Tryd.underlying76
  a117 := Tryd.isAgg76
  z117 := Tryd.sizeOf76
  v117 := Tryd.zeroValue76
  t119 := Tryd.underlying37
  a119 := Tryd.isAgg37
  z119 := Tryd.sizeOf37
  t124 := Tryd.underlying79
  a124 := Tryd.isAgg79
  z124 := Tryd.sizeOf79
  v124 := Tryd.zeroValue79
  t138 := Tryd.underlying106
  a138 := Tryd.isAgg106
  z138 := Tryd.sizeOf106
  v138 := Tryd.zeroValue106
  t139 := Tryd.underlying107
  a139 := Tryd.isAgg107
  z139 := Tryd.sizeOf107
  v139 := Tryd.zeroValue107
  g3 := by kernel_rfl
  g4 := by kernel_rfl }
def Tryd.lays144_ren : Go.Shelf.Ren := ⟨fun | 144 => 57 | 143 => 70 | 219 => 80 | 217 => 84 | 225 => 83 | 224 => 82 | 267 => 92 | 266 => 93 | 314 => 100 | n => n, fun | 9 => 9 | 4 => 4 | 3 => 3 | 5 => 5 | 46 => 104 | 146 => 123 | 51 => 122 | n => n, fun | 1 => 2 | n => n⟩
theorem Tryd.lays144 : Go.Proofs.Lays.n144 Tryd.prog Tryd.lays144_ren := {
  mixed := by kernel_rfl
  f143 := Tryd.func70.trans (congrArg some (by kernel_rfl))
  f144 := Tryd.func57.trans (congrArg some (by kernel_rfl))
  f217 := Tryd.func84.trans (congrArg some (by kernel_rfl))
  f219 := Tryd.func80.trans (congrArg some (by kernel_rfl))
  f224 := Tryd.func82.trans (congrArg some (by kernel_rfl))
  f225 := Tryd.func83.trans (congrArg some (by kernel_rfl))
  f266 := Tryd.func93.trans (congrArg some (by kernel_rfl))
  f267 := Tryd.func92.trans (congrArg some (by kernel_rfl))
  f314 := Tryd.func100.trans (congrArg some (by kernel_rfl))
  t3 := Tryd.underlying3
  a3 := Tryd.isAgg3
  z3 := Tryd.sizeOf3
  v3 := Tryd.zeroValue3
  t4 := Tryd.underlying4
  a4 := Tryd.isAgg4
  z4 := Tryd.sizeOf4
  v4 := Tryd.zeroValue4
  t5 := Tryd.underlying5
  a5 := Tryd.isAgg5
  z5 := Tryd.sizeOf5
  v5 := Tryd.zeroValue5
  t9 := Tryd.underlying9
  a9 := Tryd.isAgg9
  z9 := Tryd.sizeOf9
  v9 := Tryd.zeroValue9
  t46 := Tryd.underlying104
  a46 := Tryd.isAgg104
  z46 := Tryd.sizeOf104
  v46 := Tryd.zeroValue104
  t51 := Tryd.underlying122
  a51 := Tryd.isAgg122
  z51 := Tryd.sizeOf122
  v51 := Tryd.zeroValue122
  t146 := Tryd.underlying123
  a146 := Tryd.isAgg123
  z146 := Tryd.sizeOf123
  v146 := Tryd.zeroValue123
  g1 := by kernel_rfl }
theorem Tryd.lays166 : Go.Proofs.Lays.n166 Tryd.prog Tryd.lays158_ren := {
  mixed := Tryd.lays158.mixed
  f166 := Tryd.lays158.f166
  f240 := Tryd.lays158.f240
  f276 := Tryd.lays158.f276
  t0 := Tryd.lays158.t0
  a0 := Tryd.lays158.a0
  z0 := Tryd.lays158.z0
  v0 := Tryd.lays158.v0
  t3 := Tryd.lays158.t3
  a3 := Tryd.lays158.a3
  z3 := Tryd.lays158.z3
  v3 := Tryd.lays158.v3
  t4 := Tryd.lays158.t4
  a4 := Tryd.lays158.a4
  z4 := Tryd.lays158.z4
  v4 := Tryd.lays158.v4
  t9 := Tryd.lays158.t9
  a9 := Tryd.lays158.a9
  z9 := Tryd.lays158.z9
  v9 := Tryd.lays158.v9
  t20 := Tryd.lays158.t20
  a20 := Tryd.lays158.a20
  z20 := Tryd.lays158.z20
  v20 := Tryd.lays158.v20
  t37 := Tryd.lays158.t37
  a37 := Tryd.lays158.a37
  z37 := Tryd.lays158.z37
  v37 := Tryd.lays158.v37
  t70 := Tryd.lays158.t70
  a70 := Tryd.lays158.a70
  z70 := Tryd.lays158.z70
  v70 := Tryd.lays158.v70
  t72 := Tryd.lays158.t72
  a72 := Tryd.lays158.a72
  z72 := Tryd.lays158.z72
  v72 := Tryd.lays158.v72
  t75 := Tryd.lays158.t75
  a75 := Tryd.lays158.a75
  z75 := Tryd.lays158.z75
  v75 := Tryd.lays158.v75
  t164 := Tryd.lays158.t164
  a164 := Tryd.lays158.a164
  z164 := Tryd.lays158.z164
  v164 := Tryd.lays158.v164 }
theorem Tryd.lays167 : Go.Proofs.Lays.n167 Tryd.prog Tryd.lays158_ren := {
  mixed := Tryd.lays158.mixed
  f167 := Tryd.lays158.f167
  f240 := Tryd.lays158.f240
  f276 := Tryd.lays158.f276
  t0 := Tryd.lays158.t0
  a0 := Tryd.lays158.a0
  z0 := Tryd.lays158.z0
  v0 := Tryd.lays158.v0
  t4 := Tryd.lays158.t4
  a4 := Tryd.lays158.a4
  z4 := Tryd.lays158.z4
  v4 := Tryd.lays158.v4
  t5 := Tryd.lays158.t5
  a5 := Tryd.lays158.a5
  z5 := Tryd.lays158.z5
  v5 := Tryd.lays158.v5
  t9 := Tryd.lays158.t9
  a9 := Tryd.lays158.a9
  z9 := Tryd.lays158.z9
  v9 := Tryd.lays158.v9
  t20 := Tryd.lays158.t20
  a20 := Tryd.lays158.a20
  z20 := Tryd.lays158.z20
  v20 := Tryd.lays158.v20
  t37 := Tryd.lays158.t37
  a37 := Tryd.lays158.a37
  z37 := Tryd.lays158.z37
  v37 := Tryd.lays158.v37
  t70 := Tryd.lays158.t70
  a70 := Tryd.lays158.a70
  z70 := Tryd.lays158.z70
  v70 := Tryd.lays158.v70
  t72 := Tryd.lays158.t72
  a72 := Tryd.lays158.a72
  z72 := Tryd.lays158.z72
  v72 := Tryd.lays158.v72
  t75 := Tryd.lays158.t75
  a75 := Tryd.lays158.a75
  z75 := Tryd.lays158.z75
  v75 := Tryd.lays158.v75
  t164 := Tryd.lays158.t164
  a164 := Tryd.lays158.a164
  z164 := Tryd.lays158.z164
  v164 := Tryd.lays158.v164 }
theorem Tryd.lays169 : Go.Proofs.Lays.n169 Tryd.prog Tryd.lays158_ren := {
  mixed := Tryd.lays158.mixed
  f169 := Tryd.lays158.f169
  t0 := Tryd.lays158.t0
  a0 := Tryd.lays158.a0
  z0 := Tryd.lays158.z0
  v0 := Tryd.lays158.v0
  t3 := Tryd.lays158.t3
  a3 := Tryd.lays158.a3
  z3 := Tryd.lays158.z3
  v3 := Tryd.lays158.v3
  t9 := Tryd.lays158.t9
  a9 := Tryd.lays158.a9
  z9 := Tryd.lays158.z9
  v9 := Tryd.lays158.v9
  t37 := Tryd.lays158.t37
  a37 := Tryd.lays158.a37
  z37 := Tryd.lays158.z37
  v37 := Tryd.lays158.v37
  t70 := Tryd.lays158.t70
  a70 := Tryd.lays158.a70
  z70 := Tryd.lays158.z70
  v70 := Tryd.lays158.v70
  t72 := Tryd.lays158.t72
  a72 := Tryd.lays158.a72
  z72 := Tryd.lays158.z72
  v72 := Tryd.lays158.v72
  t127 := Tryd.lays158.t127
  a127 := Tryd.lays158.a127
  z127 := Tryd.lays158.z127
  v127 := Tryd.lays158.v127 }
end Go.Proofs

/- Lex: days, dates and numbers that are read from texts, by both packages. No condition. -/
set_option maxRecDepth 100000
set_option linter.unusedVariables false
set_option linter.unusedSimpArgs false
namespace Go.Proofs.YtlogipcgejfnnaaDoor
open Go.Sh Go.RowKit
theorem trimS_nil (l cs : List UInt8) : Lib.trimS l cs = [] ↔ l.all (cs.contains ·) = true := by
  unfold Lib.trimS Lib.trimLeftS Lib.trimRightS
  rw [dropWhile_nil]
  have : ((l.reverse.dropWhile (cs.contains ·)).reverse).all (cs.contains ·) = (l.reverse.dropWhile (cs.contains ·)).all (cs.contains ·) := List.all_reverse
  rw [this, dropWhile_all, List.all_reverse]
theorem u110 : (Tryd.prog.info? 75).map (fun i => (i.zero, i.size)) = some (some (.agg (Array.replicate 256 (.bool false))), 256) := by kernel_rfl
theorem min_run (ts : Array TypeId) (r : TypeId) (k : IntKind) (a b : Int) (w : World) : (Builtin.min_ ts r #[.int k a, .int k b]).run Tryd.prog w = .ok (.int k (min a b)) w := by
  rw [run_min_int2]; congr 2; omega
theorem leap_c (n : Nat) (w : World) : Calls Tryd.prog 104 #[.int .i64 (n : Int)] w fun e w' => e = .returned (.bool (leapN n)) /\ Pu w w' := by
  have e4 : (n : Int).tmod 4 = ((n % 4 : Nat) : Int) := tmod_nat n 4
  have e100 : (n : Int).tmod 100 = ((n % 100 : Nat) : Int) := tmod_nat n 100
  have e400 : (n : Int).tmod 400 = ((n % 400 : Nat) : Int) := tmod_nat n 400
  refine F104_calls _ w _ ⟨rfl, by decide, Br.of (fun d => ⟨rfl, by decide, Br.of (fun d1 => ⟨?_, Pu.refl w⟩) (fun d1 => ⟨rfl, by decide, ?_, Pu.refl w⟩)⟩) (fun d => ⟨?_, Pu.refl w⟩)⟩
  · have d := btrue d; have d1 := bntrue d1
    rw [show leapN n = true from by unfold leapN; rw [decide_eq_true (show n % 4 = 0 by omega), decide_eq_true (show n % 100 ≠ 0 by omega)]; rfl]
  · have d := btrue d; have d1 := bnfalse d1
    rw [beq_dec, show leapN n = decide (n % 400 = 0) from by unfold leapN; rw [decide_eq_false (show ¬ n % 100 ≠ 0 by omega), Bool.and_false, Bool.false_or]]
    congr 2; simp only [decide_eq_decide]; omega
  · have d := bfalse d
    rw [show leapN n = false from by unfold leapN; rw [decide_eq_false (show ¬ n % 4 = 0 by omega), decide_eq_false (show ¬ n % 400 = 0 by omega)]; rfl]
theorem s184 : sizeB Tryd.prog 128 = 12 := by kernel_rfl
def md12 : Array Value := #[.int .i64 31, .int .i64 28, .int .i64 31, .int .i64 30, .int .i64 31, .int .i64 30, .int .i64 31, .int .i64 31, .int .i64 30, .int .i64 31, .int .i64 30, .int .i64 31]
theorem md_at {m : Nat} (h : 1 <= m /\ m <= 12) : md12[m - 1]? = some (.int .i64 ((if m = 2 then 28 else if m = 4 ∨ m = 6 ∨ m = 9 ∨ m = 11 then 30 else 31 : Nat) : Int)) := by
  rcases (by omega : m = 1 ∨ m = 2 ∨ m = 3 ∨ m = 4 ∨ m = 5 ∨ m = 6 ∨ m = 7 ∨ m = 8 ∨ m = 9 ∨ m = 10 ∨ m = 11 ∨ m = 12) with rfl | rfl | rfl | rfl | rfl | rfl | rfl | rfl | rfl | rfl | rfl | rfl <;> rfl
theorem monthDays_c (y m : Nat) (h : 1 <= m /\ m <= 12) (w : World) : Calls Tryd.prog 97 #[.int .i64 (y : Int), .int .i64 (m : Int)] w fun e w' => e = .returned (.int .i64 (mdays y m : Nat)) /\ Pu w w' := by
  refine F97_calls _ _ w _ (boxA rfl s184.symm rfl fun w1 hp1 _ hb1 => ?_)
  rw [wrap_in (n := (m : Int) - 1) (by omega) (by omega)]
  have em : ((m : Int) - 1).toNat * 1 = m - 1 := by omega
  have hc : ∀ {wz : World}, Pu w1 wz -> wz.cell? ((⟨w.heap.size, 0, none⟩ : Addr).add (((m : Int) - 1).toNat * 1)) = some (.int .i64 ((if m = 2 then 28 else if m = 4 ∨ m = 6 ∨ m = 9 ∨ m = 11 then 30 else 31 : Nat) : Int)) := fun {wz} hz => by
    rw [em, cl (hz.blk hb1)]; exact md_at h
  refine Br.of (fun d => (leap_c y w1).mono ?_) (fun d => ⟨by omega, by omega, _, hc (Pu.refl _), ?_, hp1⟩)
  · have d := btrue d
    have d : m = 2 := by omega
    rintro e w2 ⟨rfl, hp2⟩
    refine ⟨_, rfl, Br.of (fun d1 => ⟨?_, hp1.trans hp2⟩) (fun d1 => ⟨by omega, by omega, _, hc hp2, ?_, hp1.trans hp2⟩)⟩
    · unfold mdays; rw [if_pos d, if_pos d1]; rfl
    · unfold mdays; rw [if_pos d, if_pos d, if_neg (by rw [d1]; simp)]
  · have d := bfalse d
    have d : ¬ m = 2 := by omega
    unfold mdays; rw [if_neg d, if_neg d]
theorem yearsDays_c (y : Nat) (h : 1 <= y /\ y <= 10000) (w : World) : Calls Tryd.prog 98 #[.int .i64 (y : Int)] w fun e w' => e = .returned (.int .i64 (yfirst y : Nat)) /\ Pu w w' := by
  obtain ⟨p, rfl⟩ : ∃ p, y = p + 1 := ⟨y - 1, by omega⟩
  have e0 : (((p + 1 : Nat) : Int) - 1) = (p : Int) := by omega
  have e4 := tdiv_nat p 4
  have e100 := tdiv_nat p 100
  have e400 := tdiv_nat p 400
  refine F98_calls _ w _ ⟨rfl, by decide, rfl, by decide, rfl, by decide, ?_, Pu.refl w⟩
  have e4 : (p : Int).tdiv 4 = ((p / 4 : Nat) : Int) := e4
  have e100 : (p : Int).tdiv 100 = ((p / 100 : Nat) : Int) := e100
  have e400 : (p : Int).tdiv 400 = ((p / 400 : Nat) : Int) := e400
  rw [e0, wrap_in (n := (p : Int)) (by omega) (by omega), e4, e100, e400, wrap_in (n := ((p / 4 : Nat) : Int)) (by omega) (by omega), wrap_in (n := ((p / 100 : Nat) : Int)) (by omega) (by omega), wrap_in (n := ((p / 400 : Nat) : Int)) (by omega) (by omega), wrap_in (n := 365 * (p : Int)) (by omega) (by omega), wrap_in (n := 365 * (p : Int) + _) (by omega) (by omega), wrap_in (n := 365 * (p : Int) + _ - _) (by omega) (by omega), wrap_in (by omega) (by omega)]
  unfold yfirst
  rw [Nat.add_sub_cancel]
  congr 2
  omega
def daysOut (y m d : Nat) : Ending := .returned (.tuple #[.int .i64 ((if IsDate y m d then dayOf y m d else 0 : Nat) : Int), .int .i64 (if IsDate y m d then 0 else 1)])
theorem mdays_le (y m : Nat) : mdays y m <= 31 /\ 28 <= mdays y m := by unfold mdays; split <;> (try split) <;> omega
theorem days_c (y m d : Nat) (w : World) : Calls Tryd.prog 90 #[.int .i64 (y : Int), .int .i64 (m : Int), .int .i64 (d : Int)] w fun e w' => e = daysOut y m d /\ Pu w w' := by
  have no : ¬ IsDate y m d -> ∀ {w'}, Pu w w' -> F90_5 (fun e w' => e = daysOut y m d /\ Pu w w') (y : Int) (m : Int) (d : Int) true [] w' := fun h w' hp => Br.t rfl ⟨by unfold daysOut; rw [if_neg h, if_neg h]; rfl, hp⟩
  refine F90_calls _ _ _ w _ ?_
  refine Br.of (fun d0 => no (fun h => by have := h.1; have := dtrue d0; omega) (Pu.refl w)) (fun d0 => Br.of (fun d1 => no (fun h => by have := h.2.1; have := dtrue d1; omega) (Pu.refl w)) (fun d1 => Br.of (fun d2 => no (fun h => by have := h.2.2.1; have := dtrue d2; omega) (Pu.refl w)) (fun d2 => Br.of (fun d3 => no (fun h => by have := h.2.2.2.1; have := dtrue d3; omega) (Pu.refl w)) (fun d3 => Br.of (fun d4 => no (fun h => by have := h.2.2.2.2.1; have := dtrue d4; omega) (Pu.refl w)) (fun d4 => ?_)))))
  have d0 := dfalse d0
  have d1 := dfalse d1
  have d2 := dfalse d2
  have d3 := dfalse d3
  have d4 := dfalse d4
  refine (monthDays_c y m (by omega) w).mono ?_
  rintro e w1 ⟨rfl, hp1⟩
  refine ⟨_, rfl, ?_⟩
  by_cases hd : d <= mdays y m
  · have hD : IsDate y m d := ⟨by omega, by omega, by omega, by omega, by omega, hd⟩
    have hml := mdays_le y m
    rw [decide_eq_false (by omega)]
    refine Br.f rfl ((yearsDays_c y (by omega) w1).mono ?_)
    rintro e w2 ⟨rfl, hp2⟩
    have hyl := yfirst_le (y := y) (by omega)
    refine ⟨_, rfl, ?_⟩
    rw [wrap_in (n := ((yfirst y : Nat) : Int) + (d : Int)) (by omega) (by omega), wrap_in (n := (m : Int) - 1) (by omega) (by omega)]
    refine loopUp (m - 1) (fun k t w' => t.2 = (k : Int) /\ t.1 = ((yfirst y + d + mfirst y k : Nat) : Int) /\ Pu w w') ⟨rfl, by simp [mfirst], hp1.trans hp2⟩ ?_
    rintro k J ⟨t1, t2⟩ w3 hk ⟨h2, h1, hp⟩ hJ
    obtain rfl : t2 = (k : Int) := h2
    obtain rfl : t1 = ((yfirst y + d + mfirst y k : Nat) : Int) := h1
    dsimp only
    refine Br.of (fun d5 => ?_) (fun d5 => ?_)
    · have hk2 : k < m - 1 := by have := dtrue d5; omega
      rw [wrap_in (n := (k : Int) + 1) (by omega) (by omega)]
      refine (monthDays_c y (k + 1) (by omega) w3).mono ?_
      rintro e w4 ⟨rfl, hp4⟩
      have hmf := mfirst_le y k
      have hmd := mdays_le y (k + 1)
      refine ⟨_, rfl, ?_⟩
      rw [wrap_in (by omega) (by omega)]
      refine hJ _ _ hk2 ⟨by dsimp only; omega, ?_, hp.trans hp4⟩
      dsimp only [mfirst]; omega
    · have hk2 : k = m - 1 := by have := dfalse d5; omega
      subst hk2
      refine ⟨?_, hp⟩
      unfold daysOut dayOf; rw [if_pos hD, if_pos hD, show yfirst y + d + mfirst y (m - 1) = yfirst y + mfirst y (m - 1) + d by omega]
  · rw [decide_eq_true (by omega)]
    exact no (fun h => hd h.2.2.2.2.2) hp1
theorem valLoop {w0 w : World} (hp : Pu w0 w) (l : List UInt8) {sg X : Int} (hsg : sg = 1 ∨ sg = -1) (hl : l.length <= 140737488355328) (hX : X = sg * (digN 0 l : Nat)) :
    F91_5 (fun e w' => e = .returned (.int .i64 X) /\ Pu w0 w') (bs l) sg [] w := by
  have hs := bs_size l
  have fin : ∀ {a : Nat} {w' : World}, a <= 1000000000000000 -> a = digN 0 l -> Pu w0 w' -> F91_1 (fun e w' => e = .returned (.int .i64 X) /\ Pu w0 w') sg (a : Int) [] w' := fun {a w'} h1 h2 h3 => by
    refine ⟨?_, h3⟩
    rw [hX, ← h2]
    rcases hsg with h | h
    · rw [h, wrap_in (by omega) (by omega)]
    · rw [h, wrap_in (by omega) (by omega)]
  refine loopUp l.length (fun k t w' => t.2 = (k : Int) /\ ∃ a : Nat, t.1 = (a : Int) /\ a <= 1000000000000000 /\ digN a (l.drop k) = digN 0 l /\ Pu w0 w') ⟨rfl, 0, rfl, by omega, rfl, hp⟩ ?_
  rintro k J ⟨t1, t2⟩ w2 hk ⟨h2, a, h1, ha, hd, hp2⟩ hJ
  obtain rfl : t2 = (k : Int) := h2
  obtain rfl : t1 = (a : Int) := h1
  dsimp only
  refine Br.of (fun d => ?_) (fun d => ?_)
  · have hk2 : k < l.length := by have := dtrue d; omega
    obtain ⟨b, hb⟩ := at_k hk2
    have hbb : (bs l)[((k : Int)).toNat]? = some b := byte_list (by rw [bs_list]; exact hb)
    rw [drop_at hb] at hd
    refine ⟨b, by omega, hbb, Br.of (fun d1 => ?_) (fun d1 => ⟨b, by omega, hbb, Br.of (fun d2 => ?_) (fun d2 => ⟨b, by omega, hbb, ?_⟩)⟩)⟩
    · refine fin ha ?_ hp2
      rw [digN, digB_out (by have := dtrue d1; omega)] at hd
      simpa using hd
    · refine fin ha ?_ hp2
      rw [digN, digB_out (by have := dtrue d2; omega)] at hd
      simpa using hd
    · have d1 := dfalse d1
      have d2 := dfalse d2
      have hb2 : 48 <= b.toNat /\ b.toNat <= 57 := by omega
      rw [dig_expr hb2, wrap_in (n := (a : Int) * 10) (by omega) (by omega), wrap_in (n := (a : Int) * 10 + _) (by omega) (by omega), wrap_in (n := (k : Int) + 1) (by omega) (by omega)]
      refine ⟨_, w2, min_run _ _ _ _ _ _, ?_⟩
      have e : digB b = true := by unfold digB; simp; omega
      rw [digN, e, if_pos rfl] at hd
      exact hJ _ _ hk2 ⟨by dsimp only; omega, min (10 * a + (b.toNat - 48)) 1000000000000000, by dsimp only; omega, Nat.min_le_right _ _, hd, hp2⟩
  · have hk2 : k = l.length := by have := dfalse d; omega
    subst hk2
    rw [List.drop_length] at hd
    exact fin ha hd hp2
theorem val_c (s : ByteArray) (hs : s.size <= 140737488355328) (w : World) : Calls Tryd.prog 91 #[.string s] w fun e w' => e = .returned (.int .i64 (valS s.data.toList)) /\ Pu w w' := by
  refine F91_calls _ w _ ((Any.strings_TrimLeft_one Tryd.lays161 s 32 (by decide) w).mono ?_)
  rintro e w1 ⟨rfl, rfl⟩
  have hT : Lib.trimLeftB s.data.toList 32 = s.data.toList.dropWhile (· == 32) := rfl
  rw [hT]
  have hlen : (s.data.toList.dropWhile (· == 32)).length <= s.size := by
    have := (List.dropWhile_suffix (· == (32 : UInt8)) (l := s.data.toList)).length_le
    rwa [size_list] at this
  refine ⟨_, rfl, ?_⟩
  rw [toList_nil]
  unfold valS
  cases hL : s.data.toList.dropWhile (· == 32) with
  | nil => exact Br.f (by simp [ByteArray.size]) (valLoop (Pu.refl _) [] (.inl rfl) (by simp) rfl)
  | cons b r =>
    rw [hL] at hlen
    simp only [List.length_cons] at hlen
    have h0 : (bs (b :: r))[((0 : Int)).toNat]? = some b := byte_list (by rw [bs_list]; rfl)
    refine Br.t (by rw [bs_size]; simp) ⟨b, by omega, h0, Br.of (fun d => ⟨b, by omega, h0, Br.of (fun d1 => ⟨Nat.le_refl _, by omega, by rw [bs_size]; show 1 <= _; simp, ?_⟩) (fun d1 => absurd (btrue d) (bfalse d1))⟩) (fun d => ⟨b, by omega, h0, Br.of (fun d1 => ⟨b, by omega, h0, Br.of (fun d2 => absurd (btrue d2) (bfalse d)) (fun d2 => ⟨Nat.le_refl _, by omega, by rw [bs_size]; show 1 <= _; simp, ?_⟩)⟩) (fun d1 => ?_)⟩)⟩
    · rw [extract1]
      refine valLoop (Pu.refl _) r (.inr rfl) (by omega) ?_
      rw [signN_cons, if_pos (by have := btrue d; omega)]; omega
    · rw [extract1]
      refine valLoop (Pu.refl _) r (.inl rfl) (by omega) ?_
      rw [signN_cons, if_neg (by have := bfalse d; omega), if_pos (by have := btrue d1; omega)]; omega
    · refine valLoop (Pu.refl _) (b :: r) (.inl rfl) (by simp; omega) ?_
      rw [signN_cons, if_neg (by have := bfalse d; omega), if_neg (by have := bfalse d1; omega)]; omega
theorem trimD_c (s : ByteArray) (hs : s.size <= 9223372036854775807) (w : World) : Calls Tryd.prog 30 #[.string s, .string ⟨#[48, 49, 50, 51, 52, 53, 54, 55, 56, 57]⟩] w
    fun e w' => e = .returned (.string ⟨(Lib.trimS s.data.toList dset).toArray⟩) /\ Pu w w' :=
  Any.strings_Trim_laid Tryd.lays160 u110 s ⟨#[48, 49, 50, 51, 52, 53, 54, 55, 56, 57]⟩ w hs (by decide) (ascii_of_all (by decide))
theorem unstamp_c (s : ByteArray) (hs : s.size <= 140737488355328) (w : World) : Calls Tryd.prog 78 #[.string s] w fun e w' => e = .returned (.tuple #[.int .i64 (unstampS s.data.toList).1, .bool (unstampS s.data.toList).2]) /\ Pu w w' := by
  refine F78_calls _ w _ ?_
  rw [F78_1, blanks8]
  refine Br.of (fun d => ⟨by unfold unstampS; rw [if_pos (dtrue d)], Pu.refl w⟩) (fun d => Br.of (fun d1 => ⟨?_, Pu.refl w⟩) (fun d1 => (trimD_c s (by omega) w).mono ?_))
  · unfold unstampS; rw [if_neg (dfalse d), if_pos (by rw [size_list]; have := bntrue d1; omega)]
  have h8 : s.size = 8 := by have := bnfalse d1; omega
  rintro e w1 ⟨rfl, hp1⟩
  have e2 : ((ByteArray.mk (Lib.trimS s.data.toList dset).toArray).toList == (⟨#[]⟩ : ByteArray).toList) = s.data.toList.all digB := by
    rw [toList_nil]
    have h1 : ((ByteArray.mk (Lib.trimS s.data.toList dset).toArray).size = 0) ↔ s.data.toList.all (dset.contains ·) = true := by
      rw [← trimS_nil]; simp [ByteArray.size]
    rw [show digB = (dset.contains ·) from funext fun b => (dset_eq b).symm]
    rw [Bool.eq_iff_iff, decide_eq_true_iff]; exact h1
  refine ⟨_, rfl, ?_⟩
  rw [e2]
  have eU : unstampS s.data.toList = if s.data.toList.all digB then dateS (digN 0 (s.data.toList.take 4)) (digN 0 ((s.data.toList.drop 4).take 2)) (digN 0 (s.data.toList.drop 6)) else (0, false) := by
    unfold unstampS; rw [if_neg (dfalse d), if_neg (by rw [size_list]; omega)]
  refine Br.of (fun d2 => ⟨by rw [eU, if_neg (by simpa using d2)], hp1⟩) (fun d2 => dwE_intro fun w2 hp2 _ => ?_)
  have hall : s.data.toList.all digB = true := by simpa using d2
  obtain ⟨x1, x2, x3⟩ := ext3 h8
  refine ⟨by omega, by rw [h8]; decide, by decide, by omega, by rw [h8]; decide, by omega, by decide, Nat.le_refl _, by omega, by rw [h8]; decide, (val_c _ (by rw [← size_list, x1, List.length_take]; omega) w2).mono ?_⟩
  rintro e w3 ⟨rfl, hp3⟩
  refine ⟨_, rfl, (val_c _ (by rw [← size_list, x2, List.length_take]; omega) w3).mono ?_⟩
  rintro e w4 ⟨rfl, hp4⟩
  refine ⟨_, rfl, (val_c _ (by rw [← size_list, x3, List.length_drop, size_list]; omega) w4).mono ?_⟩
  rintro e w5 ⟨rfl, hp5⟩
  rw [x1, x2, x3, valS_digits (all_take_of hall 4), valS_digits (all_take_of (all_drop_of hall 4) 2), valS_digits (all_drop_of hall 6)]
  refine ⟨_, rfl, (days_c _ _ _ w5).mono ?_⟩
  rintro e w6 ⟨rfl, hp6⟩
  refine ⟨_, _, rfl, ?_, (((hp1.trans hp2).trans hp3).trans (hp4.trans hp5)).trans hp6⟩
  rw [eU, if_pos hall]
  unfold dateS
  by_cases hD : IsDate (digN 0 (s.data.toList.take 4)) (digN 0 ((s.data.toList.drop 4).take 2)) (digN 0 (s.data.toList.drop 6))
  · rw [if_pos hD, if_pos hD, decide_eq_true hD]; rfl
  · rw [if_neg hD, if_neg hD, decide_eq_false hD]; rfl
end Go.Proofs.YtlogipcgejfnnaaDoor

/- Lex: ends of lines, texts in quotes, dates and signs, as the scanner takes them. No condition but those stated. -/
set_option maxRecDepth 100000
set_option linter.unusedVariables false
set_option linter.unusedSimpArgs false
namespace Go.Proofs.YtlogipcgejfnnaaDoor
open Go.Sh Go.Sh.Lx Go.RowKit
variable {w0 w w' : World} {b p : Nat} {d : List UInt8} {l g : Bool} {bad : Int}
theorem s49 : sizeB Tryd.prog 43 = 3 := by kernel_rfl
def zeroT : Tok := ⟨0, 0, ⟨#[]⟩⟩
def retE (t : Tok) (k : Bool) : Ending := .returned (.tuple #[.agg (tokV t).toArray, .bool k])
abbrev TokB (w : World) (r : Nat) (t : Tok) : Prop := w.heap[r]? = some (.cells (tokV t).toArray 43)
theorem outT {r : Nat} {t0 t : Tok} {k : Bool} {R : Rt} (hb : TokB w r t0) (hR : ∀ w', Fr (· = r) w w' -> R (retE t k) w') :
    stA Tryd.prog 43 (⟨r, 0, none⟩ : Addr) #[.int .i64 t.kind, .int .i64 t.at_, .string t.text] w fun w' => ∃ n0 : Int, w'.cell? ((⟨r, 0, none⟩ : Addr).add 0) = some (.int .i64 n0) /\ ∃ n1 : Int, w'.cell? ((⟨r, 0, none⟩ : Addr).add 1) = some (.int .i64 n1) /\
      ∃ s2 : ByteArray, w'.cell? ((⟨r, 0, none⟩ : Addr).add 2) = some (.string s2) /\ R (.returned (.tuple #[.agg #[.int .i64 n0, .int .i64 n1, .string s2], .bool k])) w' :=
  stA_fill hb s49.symm rfl rfl fun w' hb' hf _ => ⟨_, cl hb' 0, _, cl hb' 1, _, cl hb' 2, hR w' hf⟩
theorem calls_by {f : FuncId} {args : Array Value} {w : World} {post : Rt} {F : Rt -> Prop} (hc : ∀ R, F R -> Calls Tryd.prog f args w R) (H : ∀ R : Rt, (∀ e w', post e w' -> R e w') -> F R) : Calls Tryd.prog f args w post := hc _ (H _ fun _ _ h => h)
theorem end_c (h : Sc w0 w b d p l g bad) : Calls Tryd.prog 52 #[.pointer (some ⟨b, 0, none⟩)] w fun e w' => Fr (· = b) w w' /\
    if p = d.length then e = retE (if l then endT p else zeroT) true /\ Sc w0 w' b d p false false bad else e = retE (if l then endT p else zeroT) l /\ Sc w0 w' b d (p + 1) false false bad := by
  have hlim := h.lim
  have hbl := blk_lt h.blk
  have hle := h.le
  refine calls_by (F52_calls _ w) fun R hR => alB fun w1 hp1 hb1 => ?_
  have hlt1 := hp1.size
  refine ⟨_, (h.pu hp1).at_, alB fun w2 hp2 hb2 => ?_⟩
  have hlt2 := blk_lt hb1
  have hlt3 := hp2.size
  have hb1 := hp2.blk hb1
  refine stA_fill hb2 s49.symm rfl rfl fun w3 hb3 hf3 hz3 => dwE_intro fun w4 hp4 hh4 => ?_
  have h3 := (h.pu (hp1.trans hp2)).fr hf3 (by omega) (fun i hi => by rw [show i = _ from hi]; have := h.since.size; omega)
  have h4 := h3.pu hp4
  have hb1 := hp4.blk (hf3.blk hb1 (by omega))
  have hb3 := hp4.blk hb3
  have fr4 : Fr (· = b) w w4 := (Fr.pu (Pu.andNew (hp1.trans hp2) hf3 (fun i hi => by rw [show i = _ from hi]; omega) |>.trans hp4) : Fr (· = b) w w4)
  refine ⟨_, h4.ln, _, h4.at_, _, h4.s, ?_⟩
  refine h4.st_ln fun w5 h5 hf5 => ?_
  refine h5.st_bg fun w6 h6 hf6 => ?_
  have fr6 := frb (frb fr4 hf5) hf6
  have hb1 := hf6.blk (hf5.blk hb1 (by omega)) (by omega)
  have hb3 := hf6.blk (hf5.blk hb3 (by omega)) (by omega)
  -- what is handed back
  have fin : ∀ {w7 : World} {p' : Nat} (k : Bool), Sc w0 w7 b d p' false false bad -> Fr (· = b) w6 w7 -> ∀ {t : Tok}, (∀ w', Sc w0 w' b d p' false false bad -> Fr (· = b) w w' -> R (retE t k) w') ->
      stA Tryd.prog 43 (⟨w.heap.size, 0, none⟩ : Addr) #[.int .i64 t.kind, .int .i64 t.at_, .string t.text] w7 fun w' => ∃ n0 : Int, w'.cell? ((⟨w.heap.size, 0, none⟩ : Addr).add 0) = some (.int .i64 n0) /\ ∃ n1 : Int, w'.cell? ((⟨w.heap.size, 0, none⟩ : Addr).add 1) = some (.int .i64 n1) /\
      ∃ s2 : ByteArray, w'.cell? ((⟨w.heap.size, 0, none⟩ : Addr).add 2) = some (.string s2) /\ R (.returned (.tuple #[.agg #[.int .i64 n0, .int .i64 n1, .string s2], .bool k])) w' := fun {w7 p'} k h7 hf7 {t} hR => by
    refine outT (t0 := zeroT) (hf7.blk hb1 (by omega)) fun w8 hf8 => hR w8 (h7.fr hf8 (by omega) (fun i hi => by rw [show i = _ from hi]; have := h.since.size; omega)) ?_
    exact (frb fr6 hf7).trans hf8 (fun i hi hlt => by rw [show i = _ from hi] at hlt; omega)
  refine Br.of (fun q => ?_) (fun q => ?_)
  · have q : ((p : Int) == (((bs d).size : Nat) : Int)) = false := by simpa using q
    have q := bfalse q
    rw [bs_size_i] at q
    refine ⟨_, h6.at_, h6.st_at (p' := p + 1) (by omega) (by rw [wrap_in (by omega) (by omega)]; omega) fun w7 h7 hf7 => ?_⟩
    refine Br.of (fun ql => ?_) (fun ql => ?_)
    · subst ql
      have hb3 := hf7.blk hb3 (by omega)
      exact ⟨_, cl hb3 0, _, cl hb3 1, _, cl hb3 2, fin true h7 hf7 (t := endT p) fun w8 h8 hf8 => hR _ _ ⟨hf8, by rw [if_neg (by omega)]; exact ⟨rfl, h8⟩⟩⟩
    · subst ql
      have e : ((p : Int) == (((bs d).size : Nat) : Int)) = false := by rw [beq_eq_false_iff_ne, bs_size_i]; omega
      rw [e]
      exact fin false h7 hf7 (t := zeroT) fun w8 h8 hf8 => hR _ _ ⟨hf8, by rw [if_neg (by omega)]; exact ⟨rfl, h8⟩⟩
  · have q : ((p : Int) == (((bs d).size : Nat) : Int)) = true := by simpa using q
    have q2 := btrue q
    rw [bs_size_i] at q2
    rw [q]
    refine Br.of (fun ql => ?_) (fun ql => ?_)
    · subst ql
      exact ⟨_, cl hb3 0, _, cl hb3 1, _, cl hb3 2, fin true h6 (Fr.refl _ _) (t := endT p) fun w8 h8 hf8 => hR _ _ ⟨hf8, by rw [if_pos (by omega)]; exact ⟨rfl, h8⟩⟩⟩
    · subst ql
      exact fin true h6 (Fr.refl _ _) (t := zeroT) fun w8 h8 hf8 => hR _ _ ⟨hf8, by rw [if_pos (by omega)]; exact ⟨rfl, h8⟩⟩
end Go.Proofs.YtlogipcgejfnnaaDoor

/- Lex: texts in quotes, dates and signs, as the scanner takes them. The signs: what the library's tables of letters and of bytes lay. -/
set_option maxRecDepth 100000
set_option linter.unusedVariables false
set_option linter.unusedSimpArgs false
namespace Go.Proofs.YtlogipcgejfnnaaDoor
open Go.Sh Go.Sh.Lx Go.RowKit
variable {w0 w w' : World} {b p : Nat} {d : List UInt8} {l g : Bool} {bad : Int}
theorem short_c (h : Sc w0 w b d p l g bad) (t : Tok) (m : Nat) : Calls Tryd.prog 65 #[.pointer (some ⟨b, 0, none⟩), .agg (tokV t).toArray, .int .i64 (m : Int)] w fun e w' => Fr (· = b) w w' /\
    if m < t.text.size then e = .returned (.bool false) /\ Sc w0 w' b d p l g t.at_ else e = .returned (.bool true) /\ Sc w0 w' b d p l g bad := by
  refine calls_by (F65_calls _ _ _ _ _ w) fun R hR => alB fun w1 hp1 hb1 => ?_
  have h1 := h.pu hp1
  refine ⟨_, cl hb1 2, Br.of (fun q => ?_) (fun q => ?_)⟩
  · have q := dtrue q
    refine ⟨_, cl hb1 1, h1.st_bd fun w2 h2 hf2 => hR _ _ ⟨pfr hp1 hf2, ?_⟩⟩
    rw [if_pos (by omega)]; exact ⟨rfl, h2⟩
  · have q := dfalse q
    refine hR _ _ ⟨Fr.pu hp1, ?_⟩
    rw [if_neg (by omega)]; exact ⟨rfl, h1⟩
theorem quote_tw (q : UInt8) : ∀ r : List UInt8, ((lineOf r).takeWhile fun b => !decide (b = q)) = r.takeWhile fun b => !nlB b && !decide (b = q)
  | [] => rfl
  | x :: r => by
    have ih := quote_tw q r
    unfold lineOf at ih ⊢
    by_cases h : nlB x = true
    · simp [List.takeWhile_cons, h]
    · have h : nlB x = false := by simpa using h
      simp only [List.takeWhile_cons, h, Bool.not_false, if_true, Bool.true_and]
      by_cases e : x = q
      · simp [e]
      · simp only [e, decide_false, Bool.not_false, if_true]
        congr 1
theorem quote_at {q : UInt8} (hq : nlB q = false) : ∀ r : List UInt8, (r.takeWhile fun b => !nlB b && !decide (b = q)).length < (lineOf r).length ↔ r[(r.takeWhile fun b => !nlB b && !decide (b = q)).length]? = some q
  | [] => by simp [lineOf]
  | x :: r => by
    have ih := quote_at hq r
    unfold lineOf at ih ⊢
    by_cases h : nlB x = true
    · simp only [List.takeWhile_cons, h, Bool.not_true, if_false, Bool.false_and, List.length_nil, Bool.false_eq_true]
      constructor
      · intro h9; omega
      · intro h9; simp at h9; subst h9; rw [hq] at h; cases h
    · have h : nlB x = false := by simpa using h
      simp only [List.takeWhile_cons, h, Bool.not_false, if_true, Bool.true_and]
      by_cases e : x = q
      · simp [e]
      · simp only [e, decide_false, Bool.not_false, if_true, List.length_cons, List.getElem?_cons_succ, Nat.add_lt_add_iff_right]
        exact ih
theorem text_c {q : UInt8} {r : List UInt8} (h : Sc w0 w b d p l g bad) (hd : d.drop p = q :: r) (hq : nlB q = false) (t0 : Tok) : Calls Tryd.prog 66 #[.pointer (some ⟨b, 0, none⟩), .agg (tokV t0).toArray] w fun e w' => Fr (· = b) w w' /\ match quoteS q r with
    | .tok k t m => e = retE ⟨k, t0.at_, bs t⟩ true /\ Sc w0 w' b d (p + 1 + m) l g bad
    | .bad i => (∃ t, e = retE t false) /\ Sc w0 w' b d p l g ((p + i : Nat) : Int)
    | _ => False := by
  have hlim := h.lim
  have hbl := blk_lt h.blk
  have hnew := h.new
  have hdl : (d.drop p).length = r.length + 1 := by rw [hd]; rfl
  rw [List.length_drop] at hdl
  have hr : d.drop (p + 1) = r := by rw [← List.drop_drop, hd]; rfl
  have hgq : d[p]? = some q := by have := congrArg (·[0]?) hd; simpa [get_drop] using this
  have hln : lnN (d.drop p) = lnN r + 1 := by rw [hd]; unfold lnN lineOf; rw [List.takeWhile_cons, hq]; rfl
  have hlr := lnN_le r
  obtain ⟨t, ht⟩ : ∃ t, t = r.takeWhile fun b => !nlB b && !decide (b = q) := ⟨_, rfl⟩
  have htl : t.length <= r.length := by rw [ht]; exact tw_le _ r
  have htt : r.take t.length = t := by rw [ht]; exact tw_take _ r
  have hqs : quoteS q r = if r[t.length]? = some q then (match badAt t with
    | some i => .bad (i + 1)
    | none => .tok 2 t (t.length + 1)) else .bad 0 := by rw [ht]; rfl
  rw [hqs]
  refine calls_by (F66_calls _ _ _ _ w) fun R hR => alB fun w1 hp1 hb1 => alB fun w2 hp2 hb2 => ?_
  have hr1 := blk_lt hb1
  have hs1 := hp1.size
  have hs2 := hp2.size
  have hb1 := hp2.blk hb1
  have h2 := h.pu (hp1.trans hp2)
  refine ⟨_, h2.at_, (lineEnd_c h2 h2.le).mono ?_⟩
  rintro e w3 ⟨rfl, rfl⟩
  refine ⟨_, rfl, dwE_intro fun w4 hp4 _ => ?_⟩
  have h4 := h2.pu hp4
  have hb1 := hp4.blk hb1
  have hb2 := hp4.blk hb2
  have hs4 := hp4.size
  have e1 : ((p : Int) + 1).toNat = p + 1 := by omega
  have hP4 : Pu w w4 := (hp1.trans hp2).trans hp4
  -- a token handed back out of the second block
  have out : ∀ {w5 w6 : World} {t5 t6 : Tok} {k : Bool} {p' : Nat} {bad' : Int}, Sc w0 w5 b d p' l g bad' -> Fr (· = b) w w5 -> TokB w5 w1.heap.size t6 -> (∀ w', Sc w0 w' b d p' l g bad' -> Fr (· = b) w w' -> R (retE t5 k) w') ->
      stA Tryd.prog 43 (⟨w1.heap.size, 0, none⟩ : Addr) #[.int .i64 t5.kind, .int .i64 t5.at_, .string t5.text] w5 fun w' => ∃ n0 : Int, w'.cell? ((⟨w1.heap.size, 0, none⟩ : Addr).add 0) = some (.int .i64 n0) /\ ∃ n1 : Int, w'.cell? ((⟨w1.heap.size, 0, none⟩ : Addr).add 1) = some (.int .i64 n1) /\
      ∃ s2 : ByteArray, w'.cell? ((⟨w1.heap.size, 0, none⟩ : Addr).add 2) = some (.string s2) /\ R (.returned (.tuple #[.agg #[.int .i64 n0, .int .i64 n1, .string s2], .bool k])) w' := fun {w5 w6 t5 t6 k p' bad'} h5 hf5 hb5 hk =>
    outT hb5 fun w8 hf8 => hk w8 (h5.fr hf8 (by omega) (fun i hi => by rw [show i = _ from hi]; have := h.since.size; omega)) (hf5.trans hf8 fun i hi hlt => by rw [show i = _ from hi] at hlt; omega)
  refine ⟨_, h4.s, _, h4.at_, ?_⟩
  rw [wrap_in (n := (p : Int) + 1) (by omega) (by omega), hln]
  refine ⟨by omega, by rw [bs_size, toNat_i]; omega, by omega, by rw [toNat_i]; omega, _, h4.s, _, h4.at_, q, by omega, by rw [toNat_i]; exact bs_get hgq, ?_⟩
  have hsub : (bs d).extract ((p : Int) + 1).toNat (((p + (lnN r + 1) : Nat) : Int)).toNat = bs (lineOf r) := by
    rw [e1, toNat_i, extract_take]
    congr 1
    rw [show p + (lnN r + 1) = (p + 1) + lnN r by omega, List.take_add, List.drop_append, List.drop_eq_nil_of_le (by rw [List.length_take]; omega), List.nil_append, List.length_take, Nat.min_eq_left (by omega), Nat.sub_self, List.drop_zero, hr]
    exact tw_take _ r
  rw [hsub]
  refine (indexByte_c (lineOf r) _ w4).mono ?_
  rintro e w5 ⟨rfl, rfl⟩
  have hq8 : (((q.toNat : Nat) : Int)).toNat.toUInt8 = q := by rw [toNat_i]; simp [Nat.toUInt8]
  rw [hq8, indexByte_tw, quote_tw, ← ht]
  have hiff : t.length < (lineOf r).length ↔ r[t.length]? = some q := by rw [ht]; exact quote_at hq r
  refine ⟨_, rfl, ?_⟩
  by_cases hin : r[t.length]? = some q
  · have hlt := hiff.2 hin
    rw [if_pos hlt, if_pos hin] at *
    have htr : t.length < r.length := (List.getElem?_eq_some_iff.1 hin).1
    refine Br.f (decide_eq_false (by omega)) (dwE_intro fun w6 hp6 _ => ?_)
    have h6 := h4.pu hp6
    have hb1 := hp6.blk hb1
    have hb2 := hp6.blk hb2
    have hs6 := hp6.size
    have hP6 := hP4.trans hp6
    refine ⟨fun w' => Sc w0 w' b d p l g bad, h6, _, fun w' h' => h'.s, _, fun w' h' => h'.at_, _, fun w' h' => h'.at_, ?_⟩
    rw [wrap_in (n := (p : Int) + 1) (by omega) (by omega), wrap_in (n := (p : Int) + 1 + (t.length : Int)) (by omega) (by omega)]
    have e2 : ((p : Int) + 1 + (t.length : Int)).toNat = p + 1 + t.length := by omega
    rw [e1, e2]
    refine ⟨by omega, by rw [bs_size]; omega, by omega, by omega, ?_⟩
    have hsub2 : (bs d).extract (p + 1) (p + 1 + t.length) = bs t := by
      rw [extract_take]
      congr 1
      rw [List.take_add, List.drop_append, List.drop_eq_nil_of_le (by rw [List.length_take]; omega), List.nil_append, List.length_take, Nat.min_eq_left (by omega), Nat.sub_self, List.drop_zero, hr]
      exact htt
    rw [hsub2]
    refine st1_intro hb1 (by simp) fun w7 hw7 hb7 => ?_
    have hf7 : Fr (· = w.heap.size) w6 w7 := by rw [hw7]; exact Fr.setCell w6 ⟨w.heap.size, 0, none⟩ _
    have h7 := h6.fr hf7 (by omega) (fun i hi => by rw [show i = _ from hi]; have := h.since.size; omega)
    refine ⟨h7, ?_⟩
    rw [add_def]
    refine st1_intro hb7 (by simp) fun w8 hw8 hb8 => ?_
    have hf8 : Fr (· = w.heap.size) w7 w8 := by rw [hw8]; exact Fr.setCell w7 ⟨w.heap.size, 0 + 2, none⟩ _
    have h8 := h7.fr hf8 (by omega) (fun i hi => by rw [show i = _ from hi]; have := h.since.size; omega)
    have hb8 : TokB w8 w.heap.size ⟨2, t0.at_, bs t⟩ := hb8
    have hb2 := hf8.blk (hf7.blk hb2 (by omega)) (by omega)
    have hP8 : Pu w w8 := Pu.andNew (Pu.andNew hP6 hf7 (fun i hi => by rw [show i = _ from hi]; omega)) hf8 (fun i hi => by rw [show i = _ from hi]; omega)
    have hz8 : w6.heap.size <= w8.heap.size := Nat.le_trans hf7.size hf8.size
    refine ⟨_, cl hb8 2, ?_⟩
    refine loopUp t.length (fun k s w' => s = (k : Int) /\ Sc w0 w' b d p l g bad /\ TokB w' w.heap.size ⟨2, t0.at_, bs t⟩ /\ TokB w' w1.heap.size zeroT /\ Pu w w' /\ ∀ j, j < k -> ∀ y, t[j]? = some y -> isB y = true) ⟨rfl, h8, hb8, hb2, hP8, fun j hj => by omega⟩ ?_
    rintro k J s w9 hk ⟨rfl, h9, hb9, hc9, hP9, hall⟩ hJ
    refine Br.of (fun q1 => ?_) (fun q1 => ?_)
    · have q1 := dtrue q1
      rw [bs_size_i] at q1
      have hk2 : k < t.length := by omega
      obtain ⟨y, hy⟩ := at_k hk2
      refine dwE_intro fun w10 hp10 _ => ?_
      have h10 := h9.pu hp10
      have hb10 := hp10.blk hb9
      have hc10 := hp10.blk hc9
      have hylt := y.toNat_lt
      refine ⟨_, cl hb10 2, y, by omega, by rw [toNat_i]; exact bs_get hy, by omega, by omega, _, h10.cls y, ?_⟩
      have e4 : (((clsN y.toNat : Nat) : Int) == 4) = !isB y := by rw [beq_dec, ← (cls_b y).2.2.2]; exact dec_eq (by omega)
      rw [e4]
      refine Br.of (fun q2 => ?_) (fun q2 => ?_)
      · have hy2 : isB y = false := by simpa using q2
        rw [badAt_of hy hy2 hall] at hR
        refine ⟨_, h10.at_, ?_⟩
        rw [wrap_in (n := (p : Int) + 1) (by omega) (by omega), wrap_in (by omega) (by omega)]
        refine h10.st_bd fun w11 h11 hf11 => ?_
        have hb11 := hf11.blk hb10 (by omega)
        have hc11 := hf11.blk hc10 (by omega)
        refine ⟨_, cl hb11 0, _, cl hb11 1, _, cl hb11 2, ?_⟩
        exact out (w6 := w11) (t5 := ⟨2, t0.at_, bs t⟩) h11 (pfr (hP9.trans hp10) hf11) hc11 fun w12 h12 hf12 => hR _ _ ⟨hf12, ⟨_, rfl⟩, by rw [show ((p + (k + 1) : Nat) : Int) = (p : Int) + 1 + (k : Int) by omega]; exact h12⟩
      · have hy2 : isB y = true := by simpa using q2
        rw [wrap_in (by omega) (by omega)]
        refine hJ _ _ hk2 ⟨by omega, h10, hb10, hc10, hP9.trans hp10, fun j hj z hz => ?_⟩
        by_cases e : j = k
        · subst e; rw [hy] at hz; cases hz; exact hy2
        · exact hall j (by omega) z hz
    · have q1 := dfalse q1
      rw [bs_size_i] at q1
      obtain rfl : k = t.length := by omega
      rw [badAt_none fun j y hy => hall j (List.getElem?_eq_some_iff.1 hy).1 y hy] at hR
      refine ⟨_, h9.at_, ?_⟩
      rw [wrap_in (n := (t.length : Int) + 2) (by omega) (by omega), wrap_in (by omega) (by omega)]
      refine h9.st_at (p' := p + 1 + (t.length + 1)) (by omega) (by omega) fun w10 h10 hf10 => ?_
      have hb10 := hf10.blk hb9 (by omega)
      have hc10 := hf10.blk hc9 (by omega)
      refine ⟨_, cl hb10 0, _, cl hb10 1, _, cl hb10 2, ?_⟩
      exact out (w6 := w10) (t5 := ⟨2, t0.at_, bs t⟩) h10 (pfr hP9 hf10) hc10 fun w12 h12 hf12 => hR _ _ ⟨hf12, rfl, h12⟩
  · have hlt : ¬ t.length < (lineOf r).length := fun h9 => hin (hiff.1 h9)
    rw [if_neg hlt, if_neg hin] at *
    refine Br.t (decide_eq_true (by omega)) ⟨_, h4.at_, h4.st_bd fun w6 h6 hf6 => ?_⟩
    have hb1 := hf6.blk hb1 (by omega)
    have hb2 := hf6.blk hb2 (by omega)
    refine ⟨_, cl hb1 0, _, cl hb1 1, _, cl hb1 2, ?_⟩
    exact out (w6 := w6) (t5 := t0) h6 (pfr hP4 hf6) (show TokB w6 w1.heap.size zeroT from hb2) fun w12 h12 hf12 => hR _ _ ⟨hf12, ⟨_, rfl⟩, by rw [Nat.add_zero]; exact h12⟩
end Go.Proofs.YtlogipcgejfnnaaDoor
