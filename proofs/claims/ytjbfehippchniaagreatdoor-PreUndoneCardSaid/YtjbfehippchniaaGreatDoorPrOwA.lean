import Derived.Test.YtjbfehippchniaaGreatDoorShTwentyFive
import Derived.Test.YtjbfehippchniaaGreatDoorPrPrA
import Derived.Lib.Bytealg
import Derived.Lib.IndexLaws
import Derived.Test.YtjbfehippchniaaGreatDoorShTwentyTwo
import Derived.Test.YtjbfehippchniaaGreatDoorShThirteen
import Derived.Test.YtjbfehippchniaaGreatDoorPxShelf
import Derived.Test.YtjbfehippchniaaGreatDoorShTwentySix
/- Lex: tokens, and which a source has, in plain words. No condition. -/
set_option linter.unusedVariables false
set_option linter.unusedSimpArgs false
namespace Go.Sh.Lx
open Go.Sh Go.RowKit
structure Tok where
  kind : Int
  at_ : Int
  text : ByteArray
deriving DecidableEq, Inhabited
abbrev tokV (t : Tok) : List Value := [.int .i64 t.kind, .int .i64 t.at_, .string t.text]
instance : Enc Tok where
  sz := 3
  rd _ vs t := vs = tokV t /\ In64 t.kind /\ In64 t.at_
  len h := by rw [h.1]; rfl
  pu _ h := h
instance : Lim Tok := ⟨fun t => Lim.ok t.text⟩
theorem tokAt {w : World} {s : SV} {l : List Tok} (h : RdSl w s l) {i : Nat} {t : Tok} (hx : l[i]? = some t) : ∃ a, s.a = some a /\ i < s.len /\ In64 t.kind /\ In64 t.at_ /\
    w.cell? ((a.add (i * 3)).add 0) = some (.int .i64 t.kind) /\ w.cell? ((a.add (i * 3)).add 1) = some (.int .i64 t.at_) /\ w.cell? ((a.add (i * 3)).add 2) = some (.string t.text) := by
  obtain ⟨a, ha, vs, ⟨rfl, h1⟩, h2⟩ := h.get i t hx
  have hi : i < l.length := (List.getElem?_eq_some_iff.1 hx).1
  have h2 : CellsAt w (a.add (i * 3)) (tokV t) := h2
  exact ⟨a, ha, by rw [h.len]; exact hi, h1.1, h1.2, h2 0 _ rfl, h2 1 _ rfl, h2 2 _ rfl⟩
def isB (b : UInt8) : Bool := decide (b.toNat = 9) || decide (b.toNat = 10) || (decide (32 <= b.toNat) && decide (b.toNat <= 126))
def blkB (b : UInt8) : Bool := decide (b.toNat = 9) || decide (b.toNat = 32)
def letB (b : UInt8) : Bool := decide (b.toNat = 95) || (decide (97 <= b.toNat) && decide (b.toNat <= 122)) || (decide (65 <= b.toNat) && decide (b.toNat <= 90))
def nlB (b : UInt8) : Bool := decide (b.toNat = 10)
def badAt (l : List UInt8) : Option Nat := l.findIdx? fun b => !isB b
def lineOf (l : List UInt8) : List UInt8 := l.takeWhile fun b => !nlB b
def ampB : List UInt8 -> Bool
  | a :: b :: _ => decide (a.toNat = 38) && decide (b.toNat = 38)
  | _ => false
def goesB (r : List UInt8) : Bool := match r.dropWhile blkB with
  | [] => true
  | b :: t => nlB b || ampB (b :: t)
def signsS : List (List UInt8) := [[46, 78, 85, 76, 76, 46], [46, 65, 78, 68, 46], [46, 78, 79, 84, 46], [46, 79, 82, 46], [46, 84, 46], [46, 70, 46], [58, 61], [61, 61], [60, 62], [33, 61], [60, 61], [62, 61], [45, 62],
  [40], [41], [91], [93], [123], [125], [44], [124], [58], [46], [61], [35], [60], [62], [43], [45], [42], [47], [37], [94], [36], [38], [63], [64], [33]]
def signS (l : List UInt8) : Option (List UInt8) := signsS.find? fun w => decide ((l.take w.length).map capU = w)
def datesD (l : List UInt8) : List UInt8 := (l.drop 2).take 4 ++ (l.drop 7).take 2 ++ (l.drop 10).take 2
def dateL (l : List UInt8) : Option (List UInt8 × Nat) :=
  if l.take 2 = [123, 125] then some ([], 2)
  else if l.length < 13 ∨ l.take 2 ≠ [123, 94] ∨ l[6]? ≠ some 45 ∨ l[9]? ≠ some 45 ∨ l[12]? ≠ some 125 then none
  else if (unstampS (datesD l)).2 = true /\ datesD l ≠ List.replicate 8 32 then some (datesD l, 13) else none
inductive Stp where
  | go (m : Nat)
  | eol
  | tok (k : Int) (t : List UInt8) (m : Nat)
  | bad (i : Nat)
deriving DecidableEq
def quoteS (q : UInt8) (r : List UInt8) : Stp :=
  let t := r.takeWhile fun b => !nlB b && !decide (b = q)
  if r[t.length]? = some q then (match badAt t with
    | some i => .bad (i + 1)
    | none => .tok 2 t (t.length + 1)) else .bad 0
def tokS (b : UInt8) (r : List UInt8) : Stp :=
  if letB b then (let t := (b :: r).takeWhile fun c => letB c || digB c; if 24 < t.length then .bad 0 else .tok 0 (t.map capU) (t.length - 1))
  else if digB b then (let t := (b :: r).takeWhile digB; if 15 < t.length then .bad 0 else .tok 1 t (t.length - 1))
  else if b.toNat = 34 ∨ b.toNat = 39 then quoteS b r
  else match dateL (b :: r) with
    | some (d, n) => .tok 3 d (n - 1)
    | none => match signS (b :: r) with
      | some w => .tok 4 w (w.length - 1)
      | none => .bad 0
def stepS (b : UInt8) (r : List UInt8) (line : Bool) : Stp :=
  if nlB b then .eol
  else if blkB b then .go 0
  else if ampB (b :: r) || (decide (b.toNat = 42) && !line) then (match badAt (lineOf (b :: r)) with
    | some i => .bad i
    | none => .go ((lineOf (b :: r)).length - 1))
  else if decide (b.toNat = 59) && goesB r then (match badAt (lineOf r) with
    | some i => .bad (i + 1)
    | none => .go (if (lineOf r).length < r.length then (lineOf r).length + 1 else (lineOf r).length))
  else tokS b r
abbrev LexOut := List Tok × Option Nat
def endT (p : Nat) : Tok := ⟨5, (p : Int), ⟨#[]⟩⟩
def lexS : List UInt8 -> Nat -> Bool -> LexOut
  | [], p, line => (if line then [endT p] else [], none)
  | b :: r, p, line => match stepS b r line with
    | .go m => lexS (r.drop m) (p + 1 + m) line
    | .eol => ((if line then [endT p] else []) ++ (lexS r (p + 1) false).1, (lexS r (p + 1) false).2)
    | .tok k t m => (⟨k, (p : Int), bs t⟩ :: (lexS (r.drop m) (p + 1 + m) true).1, (lexS (r.drop m) (p + 1 + m) true).2)
    | .bad i => ([], some (p + i))
 termination_by l => l.length
 decreasing_by all_goals (simp only [List.length_drop, List.length_cons]; omega)
theorem lexS_nil (p : Nat) (line : Bool) : lexS [] p line = (if line then [endT p] else [], none) := by rw [lexS]
theorem lexS_go {b : UInt8} {r : List UInt8} {line : Bool} {m : Nat} (h : stepS b r line = .go m) (p : Nat) : lexS (b :: r) p line = lexS (r.drop m) (p + 1 + m) line := by rw [lexS, h]
theorem lexS_eol {b : UInt8} {r : List UInt8} {line : Bool} (h : stepS b r line = .eol) (p : Nat) : lexS (b :: r) p line = ((if line then [endT p] else []) ++ (lexS r (p + 1) false).1, (lexS r (p + 1) false).2) := by rw [lexS, h]
theorem lexS_tok {b : UInt8} {r : List UInt8} {line : Bool} {k : Int} {t : List UInt8} {m : Nat} (h : stepS b r line = .tok k t m) (p : Nat) :
    lexS (b :: r) p line = (⟨k, (p : Int), bs t⟩ :: (lexS (r.drop m) (p + 1 + m) true).1, (lexS (r.drop m) (p + 1 + m) true).2) := by rw [lexS, h]
theorem lexS_bad {b : UInt8} {r : List UInt8} {line : Bool} {i : Nat} (h : stepS b r line = .bad i) (p : Nat) : lexS (b :: r) p line = ([], some (p + i)) := by rw [lexS, h]
def lexF (d : List UInt8) : List Tok × Int × Int :=
  if 4000 < d.length then ([], 0, 3) else match (lexS d 0 false).2 with
    | some i => ([], (i : Int), 2)
    | none => if 1200 < (lexS d 0 false).1.length then ([], 0, 3) else ((lexS d 0 false).1, ((lexS d 0 false).1.length : Int), 0)
end Go.Sh.Lx

/- Pre: texts outside of quotes, comments, lines that go on, in plain words; and that the tokens of a text are those of its lines. No condition. -/
set_option maxRecDepth 100000
set_option linter.unusedVariables false
set_option linter.unusedSimpArgs false
namespace Go.Sh.Pr
open Go.Sh Go.Sh.Lx
def isQ (b : UInt8) : Bool := decide (b.toNat = 34) || decide (b.toNat = 39)
def cnt (q : UInt8) (r : List UInt8) : Nat := (r.takeWhile fun b => !decide (b = q)).length
def outS : Nat -> Nat -> List UInt8 -> List Nat
  | _, _, [] => []
  | s + 1, p, _ :: r => outS s (p + 1) r
  | 0, p, b :: r => if isQ b && decide (cnt b r < r.length) then outS (cnt b r + 1) (p + 1) r else p :: outS 0 (p + 1) r
def uncS (d : List UInt8) : List UInt8 := match (outS 0 0 d).find? fun i => ampB (d.drop i) with
  | some i => d.take i
  | none => d
def trimS (d : List UInt8) : List UInt8 := ((d.dropWhile Lx.blkB).reverse.dropWhile Lx.blkB).reverse
def starS (d : List UInt8) : Bool := match d with
  | b :: _ => decide (b.toNat = 42)
  | [] => false
def hashS (d : List UInt8) : Bool := match trimS d with
  | b :: _ => decide (b.toNat = 35)
  | [] => false
def semS (d : List UInt8) : Bool := match d.getLast? with
  | some b => decide (b.toNat = 59)
  | none => false
def goesS (d : List UInt8) (bg : Bool) : Bool :=
  if (starS (trimS (uncS d)) && !bg) || !semS (trimS (uncS d)) then false
  else decide ((outS 0 0 (trimS (uncS d))).getLast? = some ((trimS (uncS d)).length - 1))
def begS (d : List UInt8) (bg : Bool) : Bool := decide (trimS (uncS d) ≠ []) && decide (trimS (uncS d) ≠ [59]) && !(starS (trimS (uncS d)) && !bg)
def splitNl : List UInt8 -> List (List UInt8)
  | [] => [[]]
  | b :: r => if nlB b then [] :: splitNl r else match splitNl r with
    | [] => [[b]]
    | x :: xs => (b :: x) :: xs
def logG : List (List UInt8) -> List UInt8 -> Bool -> Bool -> List (List UInt8)
  | [], now, op, _ => if op then [now] else []
  | x :: xs, now, op, bg =>
    if !op && hashS x then x :: logG xs now op bg
    else if goesS x bg then logG xs ((if op then now ++ [10] else now) ++ x) true (bg || begS x bg)
    else ((if op then now ++ [10] else now) ++ x) :: logG xs [] false false
def zT (t : Tok) : Tok := ⟨t.kind, 0, t.text⟩
def Z (l : List Tok) : List Tok := l.map zT
def endZ : Tok := ⟨5, 0, ⟨#[]⟩⟩
def endB (b : Bool) : List Tok := if b then [endZ] else []
def LX (d : List UInt8) (b : Bool) : List Tok × Bool := (Z (lexS d 0 b).1, (lexS d 0 b).2.isNone)
theorem Z_app (a b : List Tok) : Z (a ++ b) = Z a ++ Z b := List.map_append
theorem Z_end (b : Bool) (p : Nat) : Z (if b then [endT p] else []) = endB b := by cases b <;> rfl
theorem lexS_any : ∀ (n : Nat) (d : List UInt8) (p q : Nat) (b : Bool), d.length <= n -> Z (lexS d p b).1 = Z (lexS d q b).1 /\ (lexS d p b).2.isNone = (lexS d q b).2.isNone := by
  intro n
  induction n with
  | zero =>
    intro d p q b h
    obtain rfl : d = [] := List.eq_nil_of_length_eq_zero (by omega)
    rw [lexS_nil, lexS_nil]
    exact ⟨by rw [Z_end, Z_end], rfl⟩
  | succ n ih =>
    intro d p q b h
    cases d with
    | nil => rw [lexS_nil, lexS_nil]; exact ⟨by rw [Z_end, Z_end], rfl⟩
    | cons x r =>
      have hr : r.length <= n := by simpa using h
      have hd : ∀ m, (r.drop m).length <= n := fun m => by rw [List.length_drop]; omega
      cases hs : stepS x r b with
      | go m => rw [lexS_go hs, lexS_go hs]; exact ih _ _ _ _ (hd m)
      | eol =>
        rw [lexS_eol hs, lexS_eol hs]
        obtain ⟨h1, h2⟩ := ih r (p + 1) (q + 1) false hr
        exact ⟨by dsimp only; rw [Z_app, Z_app, Z_end, Z_end, h1], h2⟩
      | tok k t m =>
        rw [lexS_tok hs, lexS_tok hs]
        obtain ⟨h1, h2⟩ := ih (r.drop m) (p + 1 + m) (q + 1 + m) true (hd m)
        exact ⟨by show zT _ :: Z _ = zT _ :: Z _; rw [h1]; rfl, h2⟩
      | bad i => rw [lexS_bad hs, lexS_bad hs]; exact ⟨rfl, rfl⟩
theorem LX_at (d : List UInt8) (p : Nat) (b : Bool) : (Z (lexS d p b).1, (lexS d p b).2.isNone) = LX d b := by
  obtain ⟨h1, h2⟩ := lexS_any d.length d p 0 b (Nat.le_refl _)
  unfold LX; rw [h1, h2]
theorem LX_nil (b : Bool) : LX [] b = (endB b, true) := by unfold LX; rw [lexS_nil]; dsimp only; rw [Z_end]; rfl
theorem LX_go {x : UInt8} {r : List UInt8} {b : Bool} {m : Nat} (h : stepS x r b = .go m) : LX (x :: r) b = LX (r.drop m) b := by
  rw [← LX_at (r.drop m) (0 + 1 + m)]; unfold LX; rw [lexS_go h]
theorem LX_tok {x : UInt8} {r : List UInt8} {b : Bool} {k : Int} {t : List UInt8} {m : Nat} (h : stepS x r b = .tok k t m) : LX (x :: r) b = (⟨k, 0, bs t⟩ :: (LX (r.drop m) true).1, (LX (r.drop m) true).2) := by
  rw [← LX_at (r.drop m) (0 + 1 + m)]; unfold LX; rw [lexS_tok h]; rfl
theorem nl10 : nlB 10 = true := by decide
theorem tw_nl {f : UInt8 -> Bool} (hf : f 10 = false) : ∀ (r y : List UInt8), (r ++ 10 :: y).takeWhile f = r.takeWhile f
  | [], y => by simp [List.takeWhile_cons, hf]
  | a :: r, y => by
    rw [List.cons_append, List.takeWhile_cons, List.takeWhile_cons, tw_nl hf r y]
theorem quote_nl (q : UInt8) (hq : nlB q = false) (r y : List UInt8) : quoteS q (r ++ 10 :: y) = quoteS q r := by
  unfold quoteS
  rw [tw_nl (by simp [nl10])]
  dsimp only
  have hle : (r.takeWhile fun b => !nlB b && !decide (b = q)).length <= r.length := (List.takeWhile_sublist _).length_le
  generalize hT : r.takeWhile (fun b => !nlB b && !decide (b = q)) = t at hle ⊢
  have e : ((r ++ 10 :: y)[t.length]? = some q) ↔ (r[t.length]? = some q) := by
    by_cases hlt : t.length < r.length
    · rw [List.getElem?_append_left hlt]
    · have : t.length = r.length := by omega
      rw [this, List.getElem?_append_right (Nat.le_refl _), Nat.sub_self, List.getElem?_eq_none (Nat.le_refl _)]
      simp only [List.getElem?_cons_zero, Option.some.injEq, reduceCtorEq, iff_false]
      intro h; subst h; revert hq; decide
  by_cases h : r[t.length]? = some q
  · rw [if_pos (e.2 h), if_pos h]
  · rw [if_neg (fun h2 => h (e.1 h2)), if_neg h]
end Go.Sh.Pr

/- Pre: a line lexed by itself: its tokens, whether it goes on, and that 'goesS' says so. No condition. -/
set_option maxRecDepth 100000
set_option linter.unusedVariables false
set_option linter.unusedSimpArgs false
namespace Go.Sh.Pr
open Go.Sh Go.Sh.Lx
def solB (b : UInt8) : Bool := !isQ b && !Lx.blkB b && !decide (b.toNat = 59)
theorem all256 {p : UInt8 -> Bool} (h : ∀ n : Nat, n < 256 -> p (UInt8.ofNat n) = true) (b : UInt8) : p b = true := by
  have := h b.toNat b.toNat_lt
  rwa [UInt8.ofNat_toNat] at this
theorem tw_mem {p : UInt8 -> Bool} : ∀ {l : List UInt8} {a : UInt8}, a ∈ l.takeWhile p -> p a = true
  | [], a, h => by cases h
  | x :: l, a, h => by
    rw [List.takeWhile_cons] at h
    split at h
    · rename_i hx
      rcases List.mem_cons.1 h with rfl | h
      · exact hx
      · exact tw_mem h
    · cases h
def Shut (x : List UInt8) : Prop := (∃ q t, x = q :: (t ++ [q]) /\ isQ q = true /\ q ∉ t) ∨ ∀ c ∈ x, solB c = true
structure TokB (x : List UInt8) (c : UInt8) (r : List UInt8) (b : Bool) : Prop where
  shut : Shut x
  amp : (∀ d ∈ x, d.toNat ≠ 38) ∨ x = [c] ∨ ∃ q t, x = q :: (t ++ [q]) /\ isQ q = true /\ q ∉ t
  noamp : ampB (c :: r) = false
  blk : Lx.blkB c = false
  sem : c.toNat ≠ 59
  star : c.toNat = 42 -> b = true
theorem outS_cons (p : Nat) (b : UInt8) (r : List UInt8) : outS 0 p (b :: r) = if isQ b && decide (cnt b r < r.length) then outS (cnt b r + 1) (p + 1) r else p :: outS 0 (p + 1) r := by rw [outS]
theorem outS_skip : ∀ (s p : Nat) (d : List UInt8), outS s p d = outS 0 (p + s) (d.drop s)
  | 0, p, d => rfl
  | s + 1, p, [] => by simp [outS]
  | s + 1, p, _ :: d => by
    show outS s (p + 1) d = _
    rw [outS_skip s (p + 1) d, List.drop_succ_cons]
    congr 1; omega
theorem outS_shift : ∀ (d : List UInt8) (s p k : Nat), outS s (p + k) d = (outS s p d).map (· + k)
  | [], s, p, k => by cases s <;> rfl
  | b :: r, s + 1, p, k => by
    show outS s (p + k + 1) r = (outS s (p + 1) r).map _
    rw [show p + k + 1 = p + 1 + k by omega]; exact outS_shift r s (p + 1) k
  | b :: r, 0, p, k => by
    unfold outS
    split
    · rw [show p + k + 1 = p + 1 + k by omega]; exact outS_shift r _ (p + 1) k
    · rw [show p + k + 1 = p + 1 + k by omega, outS_shift r 0 (p + 1) k]; rfl
theorem find_none {L : List Nat} {f : Nat -> Bool} (h : ∀ i ∈ L, f i = false) : L.find? f = none := by
  rw [List.find?_eq_none]
  intro i hi; rw [h i hi]; decide
end Go.Sh.Pr

/- Pre: a line lexed by itself, and that 'goesS' says whether it goes on. No condition. -/
set_option maxRecDepth 100000
set_option linter.unusedVariables false
set_option linter.unusedSimpArgs false
namespace Go.Sh.Pr
open Go.Sh Go.Sh.Lx
theorem dw_all {p : UInt8 -> Bool} : ∀ {l : List UInt8}, (∀ c ∈ l, p c = true) -> ∀ r, (l ++ r).dropWhile p = r.dropWhile p
  | [], _, r => rfl
  | a :: l, h, r => by
    rw [List.cons_append, List.dropWhile_cons, if_pos (h a (List.mem_cons_self ..))]
    exact dw_all (fun c hc => h c (List.mem_cons_of_mem _ hc)) r
theorem dw_split {p : UInt8 -> Bool} (l : List UInt8) : ∃ a, (∀ c ∈ a, p c = true) /\ l = a ++ l.dropWhile p := ⟨l.takeWhile p, fun c hc => tw_mem hc, (List.takeWhile_append_dropWhile ..).symm⟩
def LastOut (s : List UInt8) : Prop := ∀ p, (outS 0 p s).getLast? = some (p + (s.length - 1))
theorem last_drop {L M : List Nat} {k n : Nat} (h : (L ++ M).getLast? = some k) (hL : ∀ i ∈ L, i < n) (hk : n <= k) : M.getLast? = some k := by
  rw [List.getLast?_append] at h
  cases hM : M.getLast? with
  | some j => rw [hM] at h; exact h
  | none =>
    rw [hM] at h
    have h : L.getLast? = some k := h
    have := hL k (List.mem_of_getLast? h)
    omega
theorem out_cons {c : UInt8} (h : isQ c = false) (p : Nat) (s : List UInt8) : outS 0 p (c :: s) = p :: outS 0 (p + 1) s := by
  rw [outS_cons, h, Bool.false_and, if_neg (by decide)]
theorem LastOut.behind {c : UInt8} {s : List UInt8} (hq : isQ c = false) (hs : s ≠ []) (h : LastOut (c :: s)) : LastOut s := fun p => by
  have hl : 1 <= s.length := List.length_pos_iff.2 hs
  cases p with
  | zero =>
    have := h 0
    rw [out_cons hq] at this
    have h2 : ((outS 0 0 s).map (· + 1)).getLast? = some (0 + (s.length - 1) + 1) := by
      rw [outS_shift s 0 0 1] at this
      have := last_drop (L := [0]) (n := 1) this (by simp) (by simp; omega)
      rw [this]; simp; omega
    rw [List.getLast?_map] at h2
    cases hg : (outS 0 0 s).getLast? with
    | none => rw [hg] at h2; cases h2
    | some k =>
      rw [hg] at h2
      have : k + 1 = 0 + (s.length - 1) + 1 := by simpa using h2
      congr 1
      omega
  | succ p =>
    have := h p
    rw [out_cons hq] at this
    have := last_drop (L := [p]) (n := p + 1) this (by simp) (by simp; omega)
    rw [this]; simp; omega
end Go.Sh.Pr

/- Pre: that the tokens of a text without directives are those of its lines, one behind the other. No condition. -/
set_option maxRecDepth 100000
set_option linter.unusedVariables false
set_option linter.unusedSimpArgs false
namespace Go.Sh.Pr
open Go.Sh Go.Sh.Lx
def okL (l : List UInt8) : Bool := (LX l false).2
def linesS (d : List UInt8) : List (List UInt8) := logG (splitNl d) [] false false
end Go.Sh.Pr

/- Pre: the text that is made of the tokens of a text without directives, as the statement asks for it. No condition. -/
set_option maxRecDepth 100000
set_option linter.unusedVariables false
set_option linter.unusedSimpArgs false
namespace Go.Sh.Pr
open Go.Sh Go.Sh.Lx
def endP (l : List Tok) : Option Nat := l.findIdx? fun t => decide (t.kind = 5)
def tokP (d : List UInt8) : Option (List Tok) :=
  if (lexF d).2.2 ≠ 0 then none else match endP (Z (lexF d).1) with
    | none => some []
    | some k => if k + 1 = (Z (lexF d).1).length then some ((Z (lexF d).1).take k) else none
def wrtL (k : Int) (x : List UInt8) : List UInt8 :=
  if k = 2 then (if x.contains 34 then 39 :: (x ++ [39]) else 34 :: (x ++ [34]))
  else if k = 3 then (if x = [] then [123, 125] else [123, 94] ++ x.take 4 ++ [45] ++ (x.drop 4).take 2 ++ [45] ++ x.drop 6 ++ [125])
  else x
def wrtP (t : Tok) : List UInt8 := wrtL t.kind t.text.data.toList
def joinP : List Tok -> List UInt8
  | [] => []
  | t :: l => wrtP t ++ l.flatMap fun u => 32 :: wrtP u
def lineT (ts : List Tok) : List UInt8 := if ts = [] then [] else joinP ts ++ [10]
def expG : List (List UInt8) -> List UInt8 -> List UInt8 × Int
  | [], out => (out, 0)
  | l :: ls, out => match tokP l with
    | none => (out, 2)
    | some ts => expG ls (out ++ lineT ts)
def dateOk (t : Tok) : Prop := t.kind = 3 -> t.text.size = 0 ∨ t.text.size = 8
theorem findIdx_app {a : List Tok} (h : ∀ t ∈ a, t.kind ≠ 5) (b : List Tok) : endP (a ++ b) = (endP b).map (a.length + ·) := by
  unfold endP
  induction a with
  | nil =>
    rw [List.nil_append]
    cases b.findIdx? (fun t => decide (t.kind = 5)) with
    | none => rfl
    | some k => simp
  | cons t a ih =>
    rw [List.cons_append, List.findIdx?_cons, if_neg (by simpa using h t (List.mem_cons_self ..)), ih fun u hu => h u (List.mem_cons_of_mem _ hu)]
    cases b.findIdx? _ with
    | none => rfl
    | some k => simp; omega
theorem lexF_at {d : List UInt8} (h : (lexF d).2.2 = 0) : d.length <= 4000 /\ lexS d 0 false = ((lexF d).1, none) /\ (lexF d).1.length <= 1200 := by
  unfold lexF at h ⊢
  split at h
  · cases h
  · rename_i h1
    rw [if_neg h1]
    cases hs : (lexS d 0 false).2 with
    | some i => rw [hs] at h; cases h
    | none =>
      rw [hs] at h
      dsimp only at h ⊢
      split at h
      · cases h
      · rename_i h2
        rw [if_neg h2]
        exact ⟨by omega, by rw [← hs], by show (lexS d 0 false).1.length <= 1200; omega⟩
theorem lexF_in {d : List UInt8} (h1 : d.length <= 4000) (h2 : (lexS d 0 false).2 = none) (h3 : (lexS d 0 false).1.length <= 1200) : (lexF d).2.2 = 0 /\ (lexF d).1 = (lexS d 0 false).1 := by
  unfold lexF
  rw [if_neg (by omega), h2]
  dsimp only
  rw [if_neg (by omega)]
  exact ⟨rfl, rfl⟩
theorem tokP_line {d : List UInt8} {ts : List Tok} (h1 : d.length <= 4000) (hok : okL d = true) (hk : ∀ t ∈ ts, t.kind ≠ 5) (hts : (LX d false).1 = ts ++ endB (!ts.isEmpty)) (hl : (LX d false).1.length <= 1200) : tokP d = some ts := by
  have h2 : (lexS d 0 false).2 = none := by unfold okL LX at hok; simpa using hok
  have hz : Z (lexS d 0 false).1 = ts ++ endB (!ts.isEmpty) := hts
  have h3 : (lexS d 0 false).1.length <= 1200 := by
    have : (Z (lexS d 0 false).1).length <= 1200 := hl
    rwa [show (Z (lexS d 0 false).1).length = (lexS d 0 false).1.length from List.length_map _] at this
  obtain ⟨e1, e2⟩ := lexF_in h1 h2 h3
  unfold tokP
  rw [if_neg (by rw [e1]; simp), e2, hz, findIdx_app hk]
  cases ts with
  | nil => rfl
  | cons t ts =>
    have : endP (endB !(t :: ts).isEmpty) = some 0 := rfl
    rw [this]
    dsimp only [Option.map]
    have hlen : (t :: ts ++ endB !(t :: ts).isEmpty).length = (t :: ts).length + 1 := by rw [List.length_append]; rfl
    rw [if_pos (by rw [hlen]), Nat.add_zero, List.take_left]
theorem lexS_dates : ∀ (n : Nat) (d : List UInt8) (p : Nat) (b : Bool), d.length <= n -> ∀ t ∈ (lexS d p b).1, dateOk t := by
  have hend : ∀ (p : Nat) (b : Bool), ∀ t ∈ (if b then [endT p] else []), dateOk t := by
    intro p b t ht
    cases b with
    | false => cases ht
    | true => obtain rfl : t = endT p := by simpa using ht
              intro h; cases h
  intro n
  induction n with
  | zero =>
    intro d p b h
    obtain rfl : d = [] := List.eq_nil_of_length_eq_zero (by omega)
    rw [lexS_nil]; exact hend p b
  | succ n ih =>
    intro d p b h
    cases d with
    | nil => rw [lexS_nil]; exact hend p b
    | cons x r =>
      have hr : r.length <= n := by simpa using h
      have hd : ∀ m, (r.drop m).length <= n := fun m => by rw [List.length_drop]; omega
      cases hs : stepS x r b with
      | go m => rw [lexS_go hs]; exact ih _ _ _ (hd m)
      | eol =>
        rw [lexS_eol hs]
        intro t ht
        rcases List.mem_append.1 ht with ht | ht
        · exact hend p b t ht
        · exact ih _ _ _ hr t ht
      | tok k t m =>
        rw [lexS_tok hs]
        intro u hu
        rcases List.mem_cons.1 hu with rfl | hu
        · intro hk
          have hk : k = 3 := hk
          subst hk
          show (bs t).size = 0 ∨ (bs t).size = 8
          rw [bs_size]
          unfold stepS at hs
          split at hs
          · cases hs
          split at hs
          · cases hs
          split at hs
          · split at hs <;> cases hs
          split at hs
          · split at hs <;> cases hs
          unfold tokS at hs
          split at hs
          · dsimp only at hs; split at hs <;> simp at hs
          split at hs
          · dsimp only at hs; split at hs <;> simp at hs
          split at hs
          · unfold quoteS at hs; dsimp only at hs
            split at hs
            · split at hs <;> simp at hs
            · simp at hs
          split at hs
          · rename_i d n hd
            obtain ⟨rfl, _⟩ : d = t /\ _ := by simpa using hs
            unfold dateL at hd
            split at hd
            · obtain ⟨rfl, _⟩ : [] = d /\ _ := by simpa using hd
              exact .inl rfl
            · split at hd
              · cases hd
              · rename_i h9
                split at hd
                · obtain ⟨rfl, _⟩ : datesD (x :: r) = d /\ _ := by simpa using hd
                  right
                  unfold datesD
                  simp only [List.length_append, List.length_take, List.length_drop]
                  have : 13 <= (x :: r).length := by omega
                  omega
                · cases hd
          · split at hs <;> simp at hs
        · exact ih _ _ _ (hd m) u hu
      | bad i => rw [lexS_bad hs]; intro t ht; cases ht
end Go.Sh.Pr

/- Lex: the scanner, its classes of bytes, and how it goes over blanks and comments. No condition but those stated. -/
set_option maxRecDepth 100000
set_option linter.unusedVariables false
set_option linter.unusedSimpArgs false
namespace Go.Proofs.YtjbfehippchniaaGreatDoor
open Go.Sh Go.Sh.Lx Go.RowKit
theorem bs_size_i (l : List UInt8) : (((bs l).size : Nat) : Int) = (l.length : Int) := by rw [bs_size]
theorem toNat_i (n : Nat) : ((n : Int)).toNat = n := Int.toNat_natCast n
theorem extract_drop (d : List UInt8) (p : Nat) : (bs d).extract p (bs d).size = bs (d.drop p) := by
  apply bytes_ext
  rw [extract_list, bs_list, bs_list, bs_size, List.take_length]
theorem extract_take (d : List UInt8) (p q : Nat) : (bs d).extract p q = bs ((d.take q).drop p) := by
  apply bytes_ext
  rw [extract_list, bs_list, bs_list]
theorem bs_get {d : List UInt8} {k : Nat} {b : UInt8} (h : d[k]? = some b) : (bs d)[k]? = some b := byte_list (by rw [bs_list]; exact h)
theorem bs_inj {a b : List UInt8} : bs a = bs b ↔ a = b := ⟨fun h => by rw [← bs_list a, h, bs_list], fun h => by rw [h]⟩
theorem bs_beq (a b : List UInt8) : ((bs a).toList == (bs b).toList) = decide (a = b) := by
  rw [toList_beq]; exact dec_eq bs_inj
theorem stHasPrefix_c (s p : List UInt8) (w : World) : Calls Tryz.prog 74 #[.string (bs s), .string (bs p)] w fun e w' => e = .returned (.bool (decide (s.take p.length = p))) /\ w' = w := by
  refine F74_calls _ _ w _ (Br.of (fun h => ?_) (fun h => ⟨?_, rfl⟩))
  · have h := dtrue h
    rw [bs_size_i, bs_size_i] at h
    refine ⟨by omega, by rw [bs_size, toNat_i, bs_size]; omega, by omega, ?_, rfl⟩
    rw [toNat_i, bs_size, extract_take, bs_beq, List.drop_zero]
  · have h := dfalse h
    rw [bs_size_i, bs_size_i] at h
    congr 2
    have : ¬ s.take p.length = p := fun e => by
      have := congrArg List.length e
      rw [List.length_take] at this; omega
    simp [this]
theorem hasPrefix_c (s p : List UInt8) (w : World) : Calls Tryz.prog 41 #[.string (bs s), .string (bs p)] w fun e w' => e = .returned (.bool (decide (s.take p.length = p))) /\ w' = w := by
  refine F41_calls _ _ w _ ((stHasPrefix_c s p w).mono ?_)
  rintro e w' ⟨rfl, rfl⟩
  exact ⟨_, rfl, rfl, rfl⟩
theorem indexByte_run (s : ByteArray) (n : Int) (w : World) : (callFunc 156 #[.string s, .int .u8 n]).run Tryz.prog w = .ok (.value (.int .i64 (Lib.indexByte s.data.toList n.toNat.toUInt8))) w := by
  rw [run_callFunc_extern Tryz.func156 (by kernel_rfl) (by kernel_rfl) (by kernel_rfl) (e := Extern.BytealgIndexByte.indexByte) (by kernel_rfl), Lib.run_indexByteString]
  rfl
theorem indexByte_c (l : List UInt8) (n : Int) (w : World) : Calls Tryz.prog 112 #[.string (bs l), .int .u8 n] w fun e w' => e = .returned (.int .i64 (Lib.indexByte l n.toNat.toUInt8)) /\ w' = w := by
  refine F112_calls _ _ w _ ((F131_calls _ _ w _ ⟨_, w, indexByte_run _ n w, ?_⟩ : Calls Tryz.prog 131 _ w fun e w' => e = .returned (.int .i64 (Lib.indexByte l n.toNat.toUInt8)) /\ w' = w).mono ?_)
  · rw [bs_list]; exact ⟨rfl, rfl⟩
  · rintro e w' ⟨rfl, rfl⟩
    exact ⟨_, rfl, rfl, rfl⟩
theorem indexByte_tw (c : UInt8) : ∀ l : List UInt8, Lib.indexByte l c = if (l.takeWhile fun b => !decide (b = c)).length < l.length then ((l.takeWhile fun b => !decide (b = c)).length : Int) else -1
  | [] => rfl
  | b :: l => by
    have ih := indexByte_tw c l
    unfold Lib.indexByte
    by_cases h : b = c
    · subst h; simp
    · have e : (b == c) = false := by simpa using h
      rw [e, ih]
      simp only [h, decide_false, Bool.not_false, List.takeWhile_cons, if_true, List.length_cons, Bool.false_eq_true, if_false, Nat.add_lt_add_iff_right]
      split
      · rename_i h2
        have : ((((l.takeWhile fun b => !decide (b = c)).length : Int)) == -1) = false := by
          rw [beq_eq_false_iff_ne]; omega
        simp only [this, Bool.false_eq_true, if_false]; omega
      · rfl
def clsN (k : Nat) : Nat := if k = 9 ∨ k = 32 then 3 else if k = 95 ∨ (97 <= k /\ k <= 122) ∨ (65 <= k /\ k <= 90) then 1 else if 48 <= k /\ k <= 57 then 2 else if k ≠ 10 /\ (k < 32 ∨ 126 < k) then 4 else 0
theorem cls_all : ∀ k : Nat, k < 256 -> (decide (clsN k = 3) = blkB (UInt8.ofNat k) /\ decide (clsN k = 1) = letB (UInt8.ofNat k) /\ decide (clsN k = 2) = digB (UInt8.ofNat k) /\ decide (clsN k = 4) = !isB (UInt8.ofNat k)) := by decide +kernel
theorem cls_b (b : UInt8) : decide (clsN b.toNat = 3) = blkB b /\ decide (clsN b.toNat = 1) = letB b /\ decide (clsN b.toNat = 2) = digB b /\ decide (clsN b.toNat = 4) = !isB b := by
  have := cls_all b.toNat b.toNat_lt
  rwa [UInt8.ofNat_toNat] at this
def clsV (k : Nat) : Value := .int .u8 (clsN k : Nat)
theorem zc43 : zc Tryz.prog 149 = arrF 256 fun _ => .int .u8 0 := by kernel_rfl
theorem s43 : sizeB Tryz.prog 149 = 256 := by kernel_rfl
theorem arrF_oneC {n : Nat} {f : Nat -> Value} (h : ∀ i, oneC (f i) = true) : (arrF n f).toList.all oneC = true := by
  simp [arrF, List.all_eq_true, h]
theorem u8_wrap {k : Nat} (h : k < 256) : IntKind.u8.wrap (k : Int) = (k : Int) := by rw [IntKind.wrap_u8]; omega
theorem classes_c (w : World) : Calls Tryz.prog 119 #[] w fun e w' => e = .returned (.agg (arrF 256 clsV)) /\ Pu w w' := by
  refine F119_calls w _ ?_
  unfold F119_14
  rw [zc43]
  refine alB fun w1 hp1 hb1 => alB fun w2 hp2 hb2 => ?_
  have h01 := blk_lt hb1
  have hb1 := hp2.blk hb1
  obtain ⟨r1, hr1⟩ : ∃ r, r = w1.heap.size := ⟨_, rfl⟩
  rw [← hr1] at hb2 ⊢
  refine loopUp 256 (fun k t w' => t = (k : Int) /\ Pu w w' /\ w'.heap[w.heap.size]? = some (.cells (arrF 256 fun _ => .int .u8 0) 149) /\ w'.heap[r1]? = some (.cells (arrF 256 fun i => if i < k then clsV i else .int .u8 0) 149))
    ⟨rfl, hp1.trans hp2, hb1, by rw [hb2]; rfl⟩ ?_
  rintro k J t w3 hk ⟨rfl, hp3, hz, hc⟩ hJ
  refine Br.of (fun h => ?_) (fun h => ?_)
  · have hk2 : k < 256 := by have := dtrue h; omega
    show F119_7 _ _ _ _ (k : Int) (IntKind.u8.wrap (k : Int)) (k : Int) [] w3
    rw [u8_wrap hk2]
    have nxt : ∀ {w4 : World}, Pu w w4 -> w4.heap[w.heap.size]? = some (.cells (arrF 256 fun _ => .int .u8 0) 149) -> w4.heap[r1]? = some (.cells (arrF 256 fun i => if i < k + 1 then clsV i else .int .u8 0) 149) ->
        F119_2 (fun e w' => e = .returned (.agg (arrF 256 clsV)) /\ Pu w w') J (some ⟨w.heap.size, 0, none⟩) (some ⟨r1, 0, none⟩) (k : Int) [] w4 := fun {w4} h1 h2 h3 => by
      unfold F119_2
      rw [wrap_in (by omega) (by omega)]
      exact hJ _ _ hk2 ⟨by omega, h1, h2, h3⟩
    have set : ∀ n : Nat, clsN k = n -> ∀ a : Addr, a = ⟨r1, 0, none⟩ -> 0 <= (k : Int) /\ (k : Int) < ((256 : Nat) : Int) /\ st1 (a.add ((k : Int).toNat * 1)) (.int .u8 (n : Int)) w3 fun w7 =>
        F119_2 (fun e w' => e = .returned (.agg (arrF 256 clsV)) /\ Pu w w') J (some ⟨w.heap.size, 0, none⟩) (some ⟨r1, 0, none⟩) (k : Int) [] w7 := fun n hn a ha => by
      subst ha
      refine ⟨by omega, by omega, ?_⟩
      rw [add_def, toNat_i]
      refine st1_intro hc (by rw [arrF_size]; omega) fun w4 hw4 hb4 => nxt ?_ ?_ ?_
      · rw [hw4]; exact Pu.andNew hp3 (Fr.setCell w3 _ _) (fun i hi => by rw [show i = r1 from hi]; omega)
      · rw [hw4, setCell_other (by show w.heap.size ≠ r1; omega)]; exact hz
      · rw [hb4, arrF_set]
        congr 2
        apply arrF_congr
        intro i hi
        by_cases e : i = 0 + k * 1
        · rw [if_pos e, if_pos (by omega)]
          have : i = k := by omega
          subst this
          unfold clsV; rw [hn]
        · rw [if_neg e]
          by_cases h9 : i < k
          · rw [if_pos h9, if_pos (by omega)]
          · rw [if_neg h9, if_neg (by omega)]
    have none0 : clsN k = 0 -> F119_2 (fun e w' => e = .returned (.agg (arrF 256 clsV)) /\ Pu w w') J (some ⟨w.heap.size, 0, none⟩) (some ⟨r1, 0, none⟩) (k : Int) [] w3 := fun hn => nxt hp3 hz (by
      rw [hc]
      congr 2
      apply arrF_congr
      intro i hi
      by_cases h9 : i < k
      · rw [if_pos h9, if_pos (by omega)]
      · rw [if_neg h9]
        by_cases e : i < k + 1
        · rw [if_pos e]
          have : i = k := by omega
          subst this
          unfold clsV; rw [hn]; rfl
        · rw [if_neg e])
    have c3 : (k = 9 ∨ k = 32) -> clsN k = 3 := fun h => by unfold clsN; rw [if_pos h]
    have c1 : ¬ (k = 9 ∨ k = 32) -> (k = 95 ∨ (97 <= k /\ k <= 122) ∨ (65 <= k /\ k <= 90)) -> clsN k = 1 := fun h h2 => by unfold clsN; rw [if_neg h, if_pos h2]
    have c2 : 48 <= k -> k <= 57 -> clsN k = 2 := fun h h2 => by unfold clsN; rw [if_neg (by omega), if_neg (by omega), if_pos ⟨h, h2⟩]
    have c4 : ¬ (k = 9 ∨ k = 32) -> k ≠ 10 -> (k < 32 ∨ 126 < k) -> clsN k = 4 := fun h h2 h3 => by unfold clsN; rw [if_neg h, if_neg (by omega), if_neg (by omega), if_pos ⟨h2, h3⟩]
    have c0 : ¬ (k = 9 ∨ k = 32) -> ¬ (k = 95 ∨ (97 <= k /\ k <= 122) ∨ (65 <= k /\ k <= 90)) -> ¬ (48 <= k /\ k <= 57) -> ¬ (k ≠ 10 /\ (k < 32 ∨ 126 < k)) -> clsN k = 0 := fun h h2 h3 h4 => by unfold clsN; rw [if_neg h, if_neg h2, if_neg h3, if_neg h4]
    have blk : (k = 9 ∨ k = 32) -> F119_3 (fun e w' => e = .returned (.agg (arrF 256 clsV)) /\ Pu w w') J (some ⟨w.heap.size, 0, none⟩) (some ⟨r1, 0, none⟩) (k : Int) (k : Int) [] w3 := fun h => set 3 (c3 h) _ rfl
    have four : ¬ (k = 9 ∨ k = 32) -> ∀ b : Bool, b = decide (k = 95 ∨ (97 <= k /\ k <= 122) ∨ (65 <= k /\ k <= 90)) -> F119_4 (fun e w' => e = .returned (.agg (arrF 256 clsV)) /\ Pu w w') J (some ⟨w.heap.size, 0, none⟩) (some ⟨r1, 0, none⟩) (k : Int) (k : Int) (k : Int) b [] w3 := fun hn b hb => by
      subst hb
      refine Br.of (fun h => set 1 (c1 hn (dtrue h)) _ rfl) (fun h => ?_)
      have h := dfalse h
      have rest : ¬ (48 <= k /\ k <= 57) -> Br ((k : Int) != 10) (Br (decide ((k : Int) < 32)) _ (Br (decide ((k : Int) > 126)) _ _)) _ := fun h9 =>
        Br.of (fun d => Br.of (fun d2 => set 4 (c4 hn (by have := bntrue d; omega) (.inl (by have := dtrue d2; omega))) _ rfl) (fun d2 => Br.of (fun d3 => set 4 (c4 hn (by have := bntrue d; omega) (.inr (by have := dtrue d3; omega))) _ rfl)
          (fun d3 => none0 (c0 hn h h9 (by have := dfalse d2; have := dfalse d3; omega))))) (fun d => none0 (c0 hn h h9 (by have := bnfalse d; omega)))
      exact Br.of (fun d => Br.of (fun d2 => set 2 (c2 (by have := dtrue d; omega) (by have := dtrue d2; omega)) _ rfl) (fun d2 => rest (by have := dfalse d2; omega))) (fun d => rest (by have := dfalse d; omega))
    have five : ¬ (k = 9 ∨ k = 32) -> F119_5 (fun e w' => e = .returned (.agg (arrF 256 clsV)) /\ Pu w w') J (some ⟨w.heap.size, 0, none⟩) (some ⟨r1, 0, none⟩) (k : Int) (k : Int) (k : Int) [] w3 := fun hn => by
      refine Br.of (fun d => four hn _ ?_) (fun d => Br.of (fun d1 => Br.of (fun d2 => four hn _ ?_) (fun d2 => Br.of (fun d3 => four hn _ ?_) (fun d3 => four hn _ ?_))) (fun d1 => Br.of (fun d3 => four hn _ ?_) (fun d3 => four hn _ ?_)))
      · have := btrue d; symm; simp; omega
      · have := dtrue d1; have := dtrue d2; symm; simp; omega
      · have := dtrue d3; have := dfalse d2; have := bfalse d; exact dec_eq (by omega)
      · have := dfalse d3; have := dfalse d2; have := bfalse d; symm; simp; omega
      · have := dtrue d3; have := dfalse d1; have := bfalse d; exact dec_eq (by omega)
      · have := dfalse d3; have := dfalse d1; have := bfalse d; symm; simp; omega
    refine Br.of (fun d => blk (.inl (by have := btrue d; omega))) (fun d => Br.of (fun d2 => blk (.inr (by have := btrue d2; omega))) (fun d2 => five (by have := bfalse d; have := bfalse d2; omega)))
  · have hk2 : k = 256 := by have := dfalse h; omega
    subst hk2
    have hall : (arrF 256 fun i => if i < 256 then clsV i else .int .u8 0) = arrF 256 clsV := arrF_congr fun i hi => by rw [if_pos hi]
    rw [hall] at hc
    refine ⟨arrF 256 clsV, arrF_size _ _, fun i hi => by rw [cl hc], stA_fill hz (by rw [arrF_size, s43]) (by rw [arrF_size, arrF_size]) (arrF_oneC fun i => rfl) fun w5 hb5 hf5 _ => ⟨arrF 256 clsV, arrF_size _ _, fun i hi => by rw [cl hb5], rfl, ?_⟩⟩
    exact Pu.andNew hp3 hf5 (fun i hi => by rw [show i = w.heap.size from hi]; exact Nat.le_refl _)
end Go.Proofs.YtjbfehippchniaaGreatDoor

/- Lex: the scanner's state, and how it goes over blanks, comments and lines that go on. No condition but those stated. -/
set_option maxRecDepth 100000
set_option linter.unusedVariables false
set_option linter.unusedSimpArgs false
namespace Go.Proofs.YtjbfehippchniaaGreatDoor
open Go.Sh Go.Sh.Lx Go.RowKit
def scF (d : List UInt8) (p : Nat) (l g : Bool) (bad : Int) (i : Nat) : Value :=
  if i = 0 then .string (bs d) else if i = 1 then .int .i64 (p : Int) else if i = 258 then .bool l else if i = 259 then .bool g else if i = 260 then .int .i64 bad else clsV (i - 2)
structure Sc (w0 w : World) (b : Nat) (d : List UInt8) (p : Nat) (l g : Bool) (bad : Int) : Prop where
  since : Pu w0 w
  new : w0.heap.size <= b
  blk : w.heap[b]? = some (.cells (arrF 261 (scF d p l g bad)) 152)
  le : p <= d.length
  lim : d.length <= 4000
variable {w0 w w' : World} {b p : Nat} {d : List UInt8} {l g : Bool} {bad : Int}
theorem Sc.pu (h : Sc w0 w b d p l g bad) (hp : Pu w w') : Sc w0 w' b d p l g bad := ⟨h.since.trans hp, h.new, hp.blk h.blk, h.le, h.lim⟩
theorem Sc.fr {B : Nat -> Prop} (h : Sc w0 w b d p l g bad) (hf : Fr B w w') (h1 : ¬ B b) (h2 : ∀ i, B i -> w0.heap.size <= i) : Sc w0 w' b d p l g bad := ⟨Pu.andNew h.since hf h2, h.new, hf.blk h.blk h1, h.le, h.lim⟩
theorem Sc.s (h : Sc w0 w b d p l g bad) : w.cell? (⟨b, 0, none⟩ : Addr) = some (.string (bs d)) := by rw [cl0 h.blk, arrF_get (by omega)]; rfl
theorem Sc.at_ (h : Sc w0 w b d p l g bad) : w.cell? ((⟨b, 0, none⟩ : Addr).add 1) = some (.int .i64 (p : Int)) := by rw [cl h.blk, arrF_get (by omega)]; rfl
theorem Sc.ln (h : Sc w0 w b d p l g bad) : w.cell? ((⟨b, 0, none⟩ : Addr).add 258) = some (.bool l) := by rw [cl h.blk, arrF_get (by omega)]; rfl
theorem Sc.bg (h : Sc w0 w b d p l g bad) : w.cell? ((⟨b, 0, none⟩ : Addr).add 259) = some (.bool g) := by rw [cl h.blk, arrF_get (by omega)]; rfl
theorem Sc.bd (h : Sc w0 w b d p l g bad) : w.cell? ((⟨b, 0, none⟩ : Addr).add 260) = some (.int .i64 bad) := by rw [cl h.blk, arrF_get (by omega)]; rfl
theorem Sc.cls (h : Sc w0 w b d p l g bad) (x : UInt8) : w.cell? (((⟨b, 0, none⟩ : Addr).add 2).add (((x.toNat : Nat) : Int).toNat * 1)) = some (.int .u8 (clsN x.toNat : Nat)) := by
  have hx := x.toNat_lt
  rw [add_def, add_def, cell_blk h.blk, arrF_get (by rw [toNat_i]; omega), toNat_i]
  unfold scF
  rw [if_neg (by omega), if_neg (by omega), if_neg (by omega), if_neg (by omega), if_neg (by omega), show 0 + 2 + x.toNat * 1 - 2 = x.toNat by omega]; rfl
theorem Sc.st (h : Sc w0 w b d p l g bad) {o : Nat} (ho : o < 261) {v : Value} {p' : Nat} {l' g' : Bool} {bad' : Int} (hle : p' <= d.length) (hs : (fun j => if j = o then v else scF d p l g bad j) = scF d p' l' g' bad') {K : World -> Prop}
    (hK : ∀ w', Sc w0 w' b d p' l' g' bad' -> Fr (· = b) w w' -> K w') : st1 ((⟨b, 0, none⟩ : Addr).add o) v w K := by
  rw [add_def, Nat.zero_add]
  refine st1_intro h.blk (by rw [arrF_size]; exact ho) fun w' hw' hb' => ?_
  rw [arrF_set, hs] at hb'
  have hf : Fr (· = b) w w' := by rw [hw']; exact Fr.setCell w ⟨b, o, none⟩ v
  exact hK w' ⟨Pu.andNew h.since hf (fun i hi => by rw [show i = b from hi]; exact h.new), h.new, hb', hle, h.lim⟩ hf
theorem Sc.st_at (h : Sc w0 w b d p l g bad) {p' : Nat} (hle : p' <= d.length) {n : Int} (hn : n = (p' : Int)) {K : World -> Prop} (hK : ∀ w', Sc w0 w' b d p' l g bad -> Fr (· = b) w w' -> K w') : ptrE (some (⟨b, 0, none⟩ : Addr)) fun a => st1 (a.add 1) (.int .i64 n) w K := by
  subst hn
  show st1 _ _ _ _
  refine h.st (by omega) hle ?_ hK
  funext j; unfold scF
  by_cases e : j = 1
  · subst e; rfl
  · simp only [if_neg e]
theorem Sc.st_ln (h : Sc w0 w b d p l g bad) {l' : Bool} {K : World -> Prop} (hK : ∀ w', Sc w0 w' b d p l' g bad -> Fr (· = b) w w' -> K w') : ptrE (some (⟨b, 0, none⟩ : Addr)) fun a => st1 (a.add 258) (.bool l') w K := by
  show st1 _ _ _ _
  refine h.st (by omega) h.le ?_ hK
  funext j; unfold scF
  by_cases e : j = 258
  · subst e; rfl
  · simp only [if_neg e]
theorem Sc.st_bg (h : Sc w0 w b d p l g bad) {g' : Bool} {K : World -> Prop} (hK : ∀ w', Sc w0 w' b d p l g' bad -> Fr (· = b) w w' -> K w') : ptrE (some (⟨b, 0, none⟩ : Addr)) fun a => st1 (a.add 259) (.bool g') w K := by
  show st1 _ _ _ _
  refine h.st (by omega) h.le ?_ hK
  funext j; unfold scF
  by_cases e : j = 259
  · subst e; rfl
  · simp only [if_neg e]
theorem Sc.st_bd (h : Sc w0 w b d p l g bad) {bad' : Int} {K : World -> Prop} (hK : ∀ w', Sc w0 w' b d p l g bad' -> Fr (· = b) w w' -> K w') : ptrE (some (⟨b, 0, none⟩ : Addr)) fun a => st1 (a.add 260) (.int .i64 bad') w K := by
  show st1 _ _ _ _
  refine h.st (by omega) h.le ?_ hK
  funext j; unfold scF
  by_cases e : j = 260
  · subst e; rfl
  · simp only [if_neg e]
theorem frb (h : Fr (· = b) w w') {w2 : World} (k : Fr (· = b) w' w2) : Fr (· = b) w w2 := h.trans k fun _ hi _ => hi
theorem frp (h : Fr (· = b) w w') {w2 : World} (k : Pu w' w2) : Fr (· = b) w w2 := h.trans (Fr.pu k : Fr (· = b) w' w2) fun _ hi _ => hi
theorem pfr (h : Pu w w') {w2 : World} (k : Fr (· = b) w' w2) : Fr (· = b) w w2 := (Fr.pu h : Fr (· = b) w w').trans k fun _ hi _ => hi
def clsAt (d : List UInt8) (k c : Nat) : Bool := match d[k]? with
  | some x => decide (clsN x.toNat = c)
  | none => false
theorem is_c (h : Sc w0 w b d p l g bad) (k c : Nat) : Calls Tryz.prog 187 #[.pointer (some ⟨b, 0, none⟩), .int .i64 (k : Int), .int .u8 (c : Int)] w fun e w' => e = .returned (.bool (clsAt d k c)) /\ Pu w w' := by
  refine F187_calls _ _ _ w _ (dwE_intro fun w1 hp1 _ => ⟨_, (h.pu hp1).s, Br.of (fun q => ⟨_, (h.pu hp1).s, ?_⟩) (fun q => ⟨?_, hp1⟩)⟩)
  · have q := dtrue q
    rw [bs_size_i] at q
    obtain ⟨x, hx⟩ := at_k (l := d) (k := k) (by omega)
    have hlt := x.toNat_lt
    refine ⟨x, by omega, by rw [toNat_i]; exact bs_get hx, by omega, by omega, _, (h.pu hp1).cls x, ?_, hp1⟩
    unfold clsAt
    rw [hx]
    congr 2
    show ((clsN x.toNat : Int) == (c : Int)) = decide (clsN x.toNat = c)
    rw [beq_dec]; exact dec_eq (by omega)
  · have q := dfalse q
    rw [bs_size_i] at q
    unfold clsAt
    rw [List.getElem?_eq_none (by omega)]
theorem clsAt_blk (d : List UInt8) (k : Nat) : clsAt d k 3 = match d[k]? with | some x => blkB x | none => false := by
  unfold clsAt; cases d[k]? with
  | none => rfl
  | some x => exact (cls_b x).1
theorem clsAt_let (d : List UInt8) (k : Nat) : clsAt d k 1 = match d[k]? with | some x => letB x | none => false := by
  unfold clsAt; cases d[k]? with
  | none => rfl
  | some x => exact (cls_b x).2.1
theorem clsAt_dig (d : List UInt8) (k : Nat) : clsAt d k 2 = match d[k]? with | some x => digB x | none => false := by
  unfold clsAt; cases d[k]? with
  | none => rfl
  | some x => exact (cls_b x).2.2.1
theorem clsAt_wr (d : List UInt8) (k : Nat) : clsAt d k 4 = match d[k]? with | some x => !isB x | none => false := by
  unfold clsAt; cases d[k]? with
  | none => rfl
  | some x => exact (cls_b x).2.2.2
theorem head_test {f : UInt8 -> Bool} {d : List UInt8} {p k : Nat} (hk : k <= ((d.drop p).takeWhile f).length) : (match d[p + k]? with | some x => f x | none => false) = decide (k < ((d.drop p).takeWhile f).length) := by
  by_cases h : k < ((d.drop p).takeWhile f).length
  · obtain ⟨x, hx, hf⟩ := tw_lt h
    rw [get_drop] at hx
    rw [hx, decide_eq_true h]; exact hf
  · have e : k = ((d.drop p).takeWhile f).length := by omega
    rw [decide_eq_false h]
    cases hx : d[p + k]? with
    | none => rfl
    | some x => exact tw_end (l := d.drop p) (by rw [← e, get_drop]; exact hx)
theorem tw_drop_le (f : UInt8 -> Bool) (d : List UInt8) (p : Nat) (hp : p <= d.length) : p + ((d.drop p).takeWhile f).length <= d.length := by
  have := tw_le f (d.drop p)
  rw [List.length_drop] at this; omega
def blkN (r : List UInt8) : Nat := (r.takeWhile blkB).length
theorem skip_c (h : Sc w0 w b d p l g bad) : Calls Tryz.prog 166 #[.pointer (some ⟨b, 0, none⟩)] w fun e w' => e = .returned (.tuple #[]) /\ Sc w0 w' b d (p + blkN (d.drop p)) l g bad /\ Fr (· = b) w w' := by
  have hle := tw_drop_le blkB d p h.le
  have hlim := h.lim
  refine F166_calls _ w _ (loopUp (blkN (d.drop p)) (fun k _ w' => Sc w0 w' b d (p + k) l g bad /\ Fr (· = b) w w') ⟨h, Fr.refl _ _⟩ ?_)
  rintro k J _ w1 hk ⟨h1, hf1⟩ hJ
  have ht := head_test (f := blkB) (d := d) (p := p) hk
  refine ⟨_, h1.at_, (is_c h1 (p + k) 3).mono ?_⟩
  rintro e w2 ⟨rfl, hp2⟩
  rw [clsAt_blk, ht]
  have h2 := h1.pu hp2
  refine ⟨_, rfl, Br.of (fun q => ?_) (fun q => ?_)⟩
  · have q := dtrue q
    refine ⟨_, h2.at_, h2.st_at (p' := p + (k + 1)) (by unfold blkN at *; omega) (by rw [wrap_in (by omega) (by omega)]; omega) fun w3 h3 hf3 => hJ _ _ q ⟨h3, frb (frp hf1 hp2) hf3⟩⟩
  · have q := dfalse q
    have e : k = blkN (d.drop p) := by unfold blkN at *; omega
    subst e
    exact ⟨rfl, h2, frp hf1 hp2⟩
theorem nl_iff (b : UInt8) : (!decide (b = (10 : UInt8))) = !nlB b := by
  unfold nlB
  congr 1
  exact dec_eq ⟨fun h => by rw [h]; rfl, fun h => UInt8.toNat_inj.1 h⟩
theorem lineOf_eq (r : List UInt8) : (r.takeWhile fun b => !decide (b = (10 : UInt8))) = lineOf r := by
  unfold lineOf
  congr 1
  funext b; exact nl_iff b
def lnN (r : List UInt8) : Nat := (lineOf r).length
theorem lnN_le (r : List UInt8) : lnN r <= r.length := tw_le _ r
theorem lineEnd_c (h : Sc w0 w b d p l g bad) {q : Nat} (hq : q <= d.length) : Calls Tryz.prog 188 #[.pointer (some ⟨b, 0, none⟩), .int .i64 (q : Int)] w fun e w' => e = .returned (.int .i64 ((q + lnN (d.drop q) : Nat) : Int)) /\ w' = w := by
  have hlim := h.lim
  have hl := lnN_le (d.drop q)
  rw [List.length_drop] at hl
  refine F188_calls _ _ w _ ⟨_, h.s, Nat.le_refl _, by omega, by rw [bs_size, toNat_i]; exact hq, ?_⟩
  rw [toNat_i, extract_drop]
  refine (indexByte_c (d.drop q) 10 w).mono ?_
  rintro e w1 ⟨rfl, rfl⟩
  have hi := indexByte_tw 10 (d.drop q)
  rw [lineOf_eq] at hi
  have e10 : ((10 : Int).toNat.toUInt8) = (10 : UInt8) := rfl
  rw [e10, hi]
  refine ⟨_, rfl, ?_⟩
  show Br (decide ((if lnN (d.drop q) < (d.drop q).length then ((lnN (d.drop q) : Nat) : Int) else -1) ≥ 0)) _ _
  by_cases hlt : lnN (d.drop q) < (d.drop q).length
  · rw [if_pos hlt]
    refine Br.t (decide_eq_true (by omega)) ⟨?_, rfl⟩
    rw [show (if (lineOf (d.drop q)).length < (d.drop q).length then (((lineOf (d.drop q)).length : Nat) : Int) else -1) = ((lnN (d.drop q) : Nat) : Int) from if_pos hlt]
    rw [wrap_in (by omega) (by omega)]
    congr 3
  · rw [if_neg hlt]
    refine Br.f (decide_eq_false (by omega)) ⟨_, h.s, ?_, rfl⟩
    rw [bs_size_i]
    congr 3
    rw [List.length_drop] at hlt
    omega
end Go.Proofs.YtjbfehippchniaaGreatDoor

/- Lex: how the scanner goes over comments, over lines that go on, and over ends of lines. No condition but those stated. -/
set_option maxRecDepth 100000
set_option linter.unusedVariables false
set_option linter.unusedSimpArgs false
namespace Go.Proofs.YtjbfehippchniaaGreatDoor
open Go.Sh Go.Sh.Lx Go.RowKit
variable {w0 w w' : World} {b p : Nat} {d : List UInt8} {l g : Bool} {bad : Int}
theorem badAt_of {l : List UInt8} {i : Nat} {x : UInt8} (hx : l[i]? = some x) (hb : isB x = false) (hall : ∀ j, j < i -> ∀ y, l[j]? = some y -> isB y = true) : badAt l = some i := by
  unfold badAt
  rw [List.findIdx?_eq_some_iff_getElem]
  obtain ⟨h1, h2⟩ := List.getElem?_eq_some_iff.1 hx
  refine ⟨h1, by rw [h2, hb]; rfl, fun j hj => ?_⟩
  have := hall j hj _ (List.getElem?_eq_getElem (by omega))
  rw [this]; simp
theorem badAt_none {l : List UInt8} (hall : ∀ (j : Nat) (y : UInt8), l[j]? = some y -> isB y = true) : badAt l = none := by
  unfold badAt
  rw [List.findIdx?_eq_none_iff]
  intro x hx
  obtain ⟨j, hj⟩ := List.mem_iff_getElem?.1 hx
  rw [hall j x hj]; rfl
theorem badAt_cons_ok {x : UInt8} {l : List UInt8} (h : isB x = true) : badAt (x :: l) = (badAt l).map (· + 1) := by
  unfold badAt
  rw [List.findIdx?_cons, h]; rfl
theorem lineOf_get {r : List UInt8} {k : Nat} (hk : k < lnN r) : (lineOf r)[k]? = r[k]? := by
  have h : (r.take (lnN r))[k]? = r[k]? := by rw [List.getElem?_take, if_pos hk]
  rw [← h]; congr 1
  exact (tw_take _ r).symm
theorem comment_c (h : Sc w0 w b d p l g bad) : Calls Tryz.prog 168 #[.pointer (some ⟨b, 0, none⟩)] w fun e w' => Fr (· = b) w w' /\ match badAt (lineOf (d.drop p)) with
    | some i => e = .returned (.bool false) /\ Sc w0 w' b d (p + i) l g ((p + i : Nat) : Int)
    | none => e = .returned (.bool true) /\ Sc w0 w' b d (p + lnN (d.drop p)) l g bad := by
  have hle := lnN_le (d.drop p)
  rw [List.length_drop] at hle
  have hlim := h.lim
  have hpl := h.le
  refine F168_calls _ w _ ⟨_, h.at_, (lineEnd_c h h.le).mono ?_⟩
  rintro e w1 ⟨rfl, rfl⟩
  refine ⟨_, rfl, loopUp (lnN (d.drop p)) (fun k _ w' => Sc w0 w' b d (p + k) l g bad /\ Fr (· = b) w1 w' /\ ∀ j, j < k -> ∀ y, (lineOf (d.drop p))[j]? = some y -> isB y = true) ⟨h, Fr.refl _ _, fun j hj => by omega⟩ ?_⟩
  rintro k J _ w2 hk ⟨h2, hf2, hall⟩ hJ
  refine ⟨_, h2.at_, Br.of (fun q => ?_) (fun q => ?_)⟩
  · have q := dtrue q
    have hk2 : k < lnN (d.drop p) := by omega
    obtain ⟨x, hx⟩ := at_k (l := d) (k := p + k) (by omega)
    have hgx : (lineOf (d.drop p))[k]? = some x := by rw [lineOf_get hk2, get_drop]; exact hx
    refine ⟨_, h2.at_, (is_c h2 (p + k) 4).mono ?_⟩
    rintro e w3 ⟨rfl, hp3⟩
    have h3 := h2.pu hp3
    have hc : clsAt d (p + k) 4 = !isB x := by rw [clsAt_wr, hx]
    rw [hc]
    refine ⟨_, rfl, Br.of (fun q2 => ?_) (fun q2 => ?_)⟩
    · have hb : isB x = false := by simpa using q2
      refine ⟨_, h3.at_, h3.st_bd fun w4 h4 hf4 => ⟨frb (frp hf2 hp3) hf4, ?_⟩⟩
      rw [badAt_of hgx hb hall]
      exact ⟨rfl, h4⟩
    · have hb : isB x = true := by simpa using q2
      refine ⟨_, h3.at_, h3.st_at (p' := p + (k + 1)) (by omega) (by rw [wrap_in (by omega) (by omega)]; omega) fun w4 h4 hf4 => hJ _ _ hk2 ⟨h4, frb (frp hf2 hp3) hf4, fun j hj y hy => ?_⟩⟩
      by_cases e : j = k
      · subst e; rw [hgx] at hy; cases hy; exact hb
      · exact hall j (by omega) y hy
  · have q := dfalse q
    have e : k = lnN (d.drop p) := by omega
    subst e
    refine ⟨hf2, ?_⟩
    rw [badAt_none fun j y hy => hall j (by have := (List.getElem?_eq_some_iff.1 hy).1; exact this) y hy]
    exact ⟨rfl, h2⟩
theorem blk_isB {x : UInt8} (h : blkB x = true) : isB x = true /\ nlB x = false := by
  have : ∀ n : Nat, n < 256 -> blkB (UInt8.ofNat n) = true -> isB (UInt8.ofNat n) = true /\ nlB (UInt8.ofNat n) = false := by decide +kernel
  have h2 := this x.toNat x.toNat_lt
  rw [UInt8.ofNat_toNat] at h2
  exact h2 h
theorem lnN_blk : ∀ r : List UInt8, lnN r = blkN r + lnN (r.drop (blkN r)) /\ badAt (lineOf r) = (badAt (lineOf (r.drop (blkN r)))).map (· + blkN r)
  | [] => ⟨rfl, rfl⟩
  | x :: r => by
    obtain ⟨i1, i2⟩ := lnN_blk r
    by_cases hx : blkB x = true
    · obtain ⟨h1, h2⟩ := blk_isB hx
      have e1 : blkN (x :: r) = blkN r + 1 := by unfold blkN; rw [List.takeWhile_cons, if_pos hx]; rfl
      have e2 : lineOf (x :: r) = x :: lineOf r := by unfold lineOf; rw [List.takeWhile_cons, if_pos (by rw [h2]; rfl)]
      have e3 : lnN (x :: r) = lnN r + 1 := by unfold lnN; rw [e2]; rfl
      rw [e3, e2, e1, List.drop_succ_cons, badAt_cons_ok h1, i2]
      refine ⟨by omega, ?_⟩
      cases badAt (lineOf (r.drop (blkN r))) <;> rfl
    · have e1 : blkN (x :: r) = 0 := by unfold blkN; rw [List.takeWhile_cons, if_neg hx]; rfl
      rw [e1, List.drop_zero]
      refine ⟨by omega, ?_⟩
      cases badAt (lineOf (x :: r)) <;> rfl
theorem goesB_eq (r : List UInt8) : goesB r = match r.drop (blkN r) with
    | [] => true
    | b :: t => nlB b || ampB (b :: t) := by
  unfold goesB blkN
  have h := tw_drop blkB r
  generalize r.drop (r.takeWhile blkB).length = z at h ⊢
  subst h
  cases List.dropWhile blkB r <;> rfl
theorem ampB_take (l : List UInt8) : decide (l.take 2 = [38, 38]) = ampB l := by
  match l with
  | [] => rfl
  | [a] => simp [ampB]
  | a :: b :: t =>
    show _ = (decide (a.toNat = 38) && decide (b.toNat = 38))
    rw [← Bool.decide_and]
    apply dec_eq
    simp only [List.take_succ_cons, List.take_zero, List.cons.injEq, and_true]
    constructor
    · rintro ⟨rfl, rfl⟩; exact ⟨rfl, rfl⟩
    · rintro ⟨h1, h2⟩; exact ⟨UInt8.toNat_inj.1 h1, UInt8.toNat_inj.1 h2⟩
theorem amp_c (r : List UInt8) (w : World) : Calls Tryz.prog 41 #[.string (bs r), .string (⟨#[38, 38]⟩ : ByteArray)] w fun e w' => e = .returned (.bool (ampB r)) /\ w' = w := by
  refine (hasPrefix_c r [38, 38] w).mono ?_
  rintro e w' ⟨rfl, rfl⟩
  refine ⟨?_, rfl⟩
  rw [← ampB_take]; rfl
def goN (r : List UInt8) : Nat := if lnN r < r.length then lnN r + 1 else lnN r
theorem goN_le (r : List UInt8) : goN r <= r.length := by unfold goN; have := lnN_le r; split <;> omega
theorem continues_c {x : UInt8} {r : List UInt8} (h : Sc w0 w b d p l g bad) (hd : d.drop p = x :: r) : Calls Tryz.prog 169 #[.pointer (some ⟨b, 0, none⟩)] w fun e w' => Fr (· = b) w w' /\
    if goesB r = false then e = .returned (.tuple #[.bool false, .bool true]) /\ Sc w0 w' b d p l g bad else match badAt (lineOf r) with
    | some i => ∃ p', e = .returned (.tuple #[.bool true, .bool false]) /\ Sc w0 w' b d p' l g ((p + 1 + i : Nat) : Int)
    | none => e = .returned (.tuple #[.bool true, .bool true]) /\ Sc w0 w' b d (p + 1 + goN r) l g bad := by
  have hlim := h.lim
  have hdl : (d.drop p).length = r.length + 1 := by rw [hd]; rfl
  rw [List.length_drop] at hdl
  have hr : d.drop (p + 1) = r := by rw [← List.drop_drop, hd]; rfl
  obtain ⟨hln, hbd⟩ := lnN_blk r
  have hm : blkN r <= r.length := tw_le blkB r
  obtain ⟨m, hmm⟩ : ∃ m, m = blkN r := ⟨_, rfl⟩
  rw [← hmm] at hln hbd hm
  have hrm : d.drop (p + 1 + m) = r.drop m := by rw [← hr, List.drop_drop]
  have hlnm := lnN_le (r.drop m)
  rw [List.length_drop] at hlnm
  refine F169_calls _ w _ ⟨_, h.at_, ?_⟩
  rw [wrap_in (by omega) (by omega)]
  have fin : ∀ {w2 : World}, Sc w0 w2 b d (p + 1 + lnN r) l g bad -> Fr (· = b) w w2 -> badAt (lineOf r) = none -> F169_1 (fun e w' => Fr (· = b) w w' /\ if goesB r = false then e = .returned (.tuple #[.bool false, .bool true]) /\ Sc w0 w' b d p l g bad else match badAt (lineOf r) with
      | some i => ∃ p', e = .returned (.tuple #[.bool true, .bool false]) /\ Sc w0 w' b d p' l g ((p + 1 + i : Nat) : Int)
      | none => e = .returned (.tuple #[.bool true, .bool true]) /\ Sc w0 w' b d (p + 1 + goN r) l g bad) (some ⟨b, 0, none⟩) [] w2 ∨ goesB r = false := fun {w2} h2 hf2 hn => by
    by_cases hg : goesB r = false
    · exact .inr hg
    · refine .inl (dwE_intro fun w3 hp3 _ => ?_)
      have h3 := h2.pu hp3
      refine ⟨_, h3.at_, _, h3.s, Br.of (fun q => ?_) (fun q => ?_)⟩
      · have q := dtrue q
        rw [bs_size_i] at q
        refine ⟨_, h3.at_, h3.st_at (p' := p + 1 + (lnN r + 1)) (by omega) (by rw [wrap_in (by omega) (by omega)]; omega) fun w4 h4 hf4 => ⟨frb (frp hf2 hp3) hf4, ?_⟩⟩
        rw [if_neg hg, hn]
        refine ⟨rfl, ?_⟩
        unfold goN; rw [if_pos (by omega)]; exact h4
      · have q := dfalse q
        rw [bs_size_i] at q
        refine ⟨frp hf2 hp3, ?_⟩
        rw [if_neg hg, hn]
        refine ⟨rfl, ?_⟩
        unfold goN; rw [if_neg (by omega)]; exact h3
  -- the comment, from behind the blanks
  have com : ∀ {w2 w3 : World} (hg : goesB r = true) {e : Ending}, Fr (· = b) w w2 -> (Fr (· = b) w2 w3 /\ match badAt (lineOf (d.drop (p + 1 + m))) with
      | some i => e = .returned (.bool false) /\ Sc w0 w3 b d (p + 1 + m + i) l g ((p + 1 + m + i : Nat) : Int)
      | none => e = .returned (.bool true) /\ Sc w0 w3 b d (p + 1 + m + lnN (d.drop (p + 1 + m))) l g bad) ->
      ∃ b49 : Bool, e = .returned (.bool b49) /\ Br (!b49) (Fr (· = b) w w3 /\ if goesB r = false then Ending.returned (.tuple #[.bool true, .bool false]) = .returned (.tuple #[.bool false, .bool true]) /\ Sc w0 w3 b d p l g bad else match badAt (lineOf r) with
      | some i => ∃ p', Ending.returned (.tuple #[.bool true, .bool false]) = .returned (.tuple #[.bool true, .bool false]) /\ Sc w0 w3 b d p' l g ((p + 1 + i : Nat) : Int)
      | none => Ending.returned (.tuple #[.bool true, .bool false]) = .returned (.tuple #[.bool true, .bool true]) /\ Sc w0 w3 b d (p + 1 + goN r) l g bad) (F169_1 (fun e w' => Fr (· = b) w w' /\ if goesB r = false then e = .returned (.tuple #[.bool false, .bool true]) /\ Sc w0 w' b d p l g bad else match badAt (lineOf r) with
      | some i => ∃ p', e = .returned (.tuple #[.bool true, .bool false]) /\ Sc w0 w' b d p' l g ((p + 1 + i : Nat) : Int)
      | none => e = .returned (.tuple #[.bool true, .bool true]) /\ Sc w0 w' b d (p + 1 + goN r) l g bad) (some ⟨b, 0, none⟩) [] w3) := fun {w2 w3} hg {e} hf2 ⟨hf3, hm3⟩ => by
    rw [hrm] at hm3
    have hng : ¬ goesB r = false := by rw [hg]; simp
    cases hb : badAt (lineOf (r.drop m)) with
    | some i =>
      rw [hb] at hm3 hbd
      obtain ⟨rfl, h3⟩ := hm3
      refine ⟨_, rfl, ⟨frb hf2 hf3, ?_⟩⟩
      rw [if_neg hng, hbd]
      exact ⟨_, rfl, by rw [show p + 1 + (i + m) = p + 1 + m + i by omega]; exact h3⟩
    | none =>
      rw [hb] at hm3 hbd
      obtain ⟨rfl, h3⟩ := hm3
      refine ⟨_, rfl, (fin (by rw [hln, ← Nat.add_assoc]; exact h3) (frb hf2 hf3) hbd).resolve_right hng⟩
  refine loopUp m (fun k t w' => t = ((p + 1 + k : Nat) : Int) /\ Sc w0 w' b d p l g bad /\ Fr (· = b) w w') ⟨by omega, h, Fr.refl _ _⟩ ?_
  rintro k J t w1 hk ⟨rfl, h1, hf1⟩ hJ
  have ht := head_test (f := blkB) (d := d) (p := p + 1) (k := k) (by rw [hr]; show k <= blkN r; omega)
  refine (is_c h1 (p + 1 + k) 3).mono ?_
  rintro e w2 ⟨rfl, hp2⟩
  rw [clsAt_blk, ht, hr]
  have h2 := h1.pu hp2
  have hf2 := frp hf1 hp2
  refine ⟨_, rfl, Br.of (fun q => ?_) (fun q => ?_)⟩
  · have q : k < blkN r := dtrue q
    rw [wrap_in (by omega) (by omega)]
    exact hJ _ _ (by omega) ⟨by omega, h2, hf2⟩
  · have q : ¬ k < blkN r := dfalse q
    obtain rfl : k = m := by omega
    have hgo := goesB_eq r
    rw [← hmm] at hgo
    refine ⟨_, h2.s, Br.of (fun q1 => ?_) (fun q1 => ?_)⟩
    · have q1 := btrue q1
      rw [bs_size_i] at q1
      have hnil : r.drop k = [] := List.drop_eq_nil_of_le (by omega)
      rw [hnil] at hgo
      exact h2.st_at (p' := p + 1 + k) (by omega) rfl fun w3 h3 hf3 => (comment_c h3).mono fun e w4 h4 => com hgo (frb hf2 hf3) h4
    · have q1 := bfalse q1
      rw [bs_size_i] at q1
      obtain ⟨y, hy⟩ := at_k (l := d) (k := p + 1 + k) (by omega)
      have hyr : r.drop k = y :: r.drop (k + 1) := by
        rw [← hrm, drop_at hy, ← hr, List.drop_drop]; congr 2
      rw [hyr] at hgo
      have hgo : goesB r = (nlB y || ampB (y :: r.drop (k + 1))) := hgo
      have hy10 : (((y.toNat : Nat) : Int) == 10) = nlB y := by rw [beq_dec]; unfold nlB; exact dec_eq (by omega)
      refine ⟨_, h2.s, y, by omega, by rw [toNat_i]; exact bs_get hy, ?_⟩
      rw [hy10]
      refine Br.of (fun q2 => ?_) (fun q2 => ?_)
      · have q2 : nlB y = false := by simpa using q2
        refine ⟨_, h2.s, Nat.le_refl _, by omega, by rw [toNat_i, bs_size]; omega, ?_⟩
        rw [toNat_i, extract_drop, hrm]
        refine (amp_c _ w2).mono ?_
        rintro e w3 ⟨rfl, rfl⟩
        rw [hyr]
        have hgo : goesB r = ampB (y :: r.drop (k + 1)) := by rw [hgo, q2, Bool.false_or]
        refine ⟨_, rfl, Br.of (fun q3 => ?_) (fun q3 => ?_)⟩
        · have q3 : ampB (y :: r.drop (k + 1)) = false := by simpa using q3
          rw [q3] at hgo
          refine ⟨hf2, ?_⟩
          rw [if_pos hgo]
          exact ⟨rfl, h2⟩
        · have q3 : ampB (y :: r.drop (k + 1)) = true := by simpa using q3
          rw [q3] at hgo
          exact h2.st_at (p' := p + 1 + k) (by omega) rfl fun w3 h3 hf3 => (comment_c h3).mono fun e w4 h4 => com hgo (frb hf2 hf3) h4
      · have q2 : nlB y = true := by simpa using q2
        have hgo : goesB r = true := by rw [hgo, q2, Bool.true_or]
        exact h2.st_at (p' := p + 1 + k) (by omega) rfl fun w3 h3 hf3 => (comment_c h3).mono fun e w4 h4 => com hgo (frb hf2 hf3) h4
end Go.Proofs.YtjbfehippchniaaGreatDoor

/- Lex: days, dates and numbers that are read from texts, by both packages (out of the table's texts, by lxdate.py). No condition. -/
set_option maxRecDepth 100000
set_option linter.unusedVariables false
set_option linter.unusedSimpArgs false
namespace Go.Proofs.YtjbfehippchniaaGreatDoor
open Go.Sh Go.RowKit
theorem trimS_nil (l cs : List UInt8) : Lib.trimS l cs = [] ↔ l.all (cs.contains ·) = true := by
  unfold Lib.trimS Lib.trimLeftS Lib.trimRightS
  rw [dropWhile_nil]
  have : ((l.reverse.dropWhile (cs.contains ·)).reverse).all (cs.contains ·) = (l.reverse.dropWhile (cs.contains ·)).all (cs.contains ·) := List.all_reverse
  rw [this, dropWhile_all, List.all_reverse]
theorem u110 : (Tryz.prog.info? 133).map (fun i => (i.zero, i.size)) = some (some (.agg (Array.replicate 256 (.bool false))), 256) := by kernel_rfl
theorem isDigit_c (b : UInt8) (w : World) : Calls Tryz.prog 28 #[.int .u8 ((b.toNat : Nat) : Int)] w fun e w' => e = .returned (.bool (digB b)) /\ Pu w w' := by
  refine F28_calls _ w _ (Br.of (fun d => ?_) (fun d => ?_))
  · refine ⟨?_, Pu.refl w⟩
    unfold digB; have := dtrue d; rw [decide_eq_true (show 48 <= b.toNat by omega), Bool.true_and]
    congr 2; simp only [decide_eq_decide]; omega
  · refine ⟨?_, Pu.refl w⟩
    unfold digB; have := dfalse d; rw [decide_eq_false (show ¬ 48 <= b.toNat by omega)]; rfl
theorem min_run (ts : Array TypeId) (r : TypeId) (k : IntKind) (a b : Int) (w : World) : (Builtin.min_ ts r #[.int k a, .int k b]).run Tryz.prog w = .ok (.int k (min a b)) w := by
  rw [run_min_int2]; congr 2; omega
theorem leap_c (n : Nat) (w : World) : Calls Tryz.prog 210 #[.int .i64 (n : Int)] w fun e w' => e = .returned (.bool (leapN n)) /\ Pu w w' := by
  have e4 : (n : Int).tmod 4 = ((n % 4 : Nat) : Int) := tmod_nat n 4
  have e100 : (n : Int).tmod 100 = ((n % 100 : Nat) : Int) := tmod_nat n 100
  have e400 : (n : Int).tmod 400 = ((n % 400 : Nat) : Int) := tmod_nat n 400
  refine F210_calls _ w _ ⟨rfl, by decide, Br.of (fun d => ⟨rfl, by decide, Br.of (fun d1 => ⟨?_, Pu.refl w⟩) (fun d1 => ⟨rfl, by decide, ?_, Pu.refl w⟩)⟩) (fun d => ⟨?_, Pu.refl w⟩)⟩
  · have d := btrue d; have d1 := bntrue d1
    rw [show leapN n = true from by unfold leapN; rw [decide_eq_true (show n % 4 = 0 by omega), decide_eq_true (show n % 100 ≠ 0 by omega)]; rfl]
  · have d := btrue d; have d1 := bnfalse d1
    rw [beq_dec, show leapN n = decide (n % 400 = 0) from by unfold leapN; rw [decide_eq_false (show ¬ n % 100 ≠ 0 by omega), Bool.and_false, Bool.false_or]]
    congr 2; simp only [decide_eq_decide]; omega
  · have d := bfalse d
    rw [show leapN n = false from by unfold leapN; rw [decide_eq_false (show ¬ n % 4 = 0 by omega), decide_eq_false (show ¬ n % 400 = 0 by omega)]; rfl]
theorem s184 : sizeB Tryz.prog 233 = 12 := by kernel_rfl
def md12 : Array Value := #[.int .i64 31, .int .i64 28, .int .i64 31, .int .i64 30, .int .i64 31, .int .i64 30, .int .i64 31, .int .i64 31, .int .i64 30, .int .i64 31, .int .i64 30, .int .i64 31]
theorem md_at {m : Nat} (h : 1 <= m /\ m <= 12) : md12[m - 1]? = some (.int .i64 ((if m = 2 then 28 else if m = 4 ∨ m = 6 ∨ m = 9 ∨ m = 11 then 30 else 31 : Nat) : Int)) := by
  rcases (by omega : m = 1 ∨ m = 2 ∨ m = 3 ∨ m = 4 ∨ m = 5 ∨ m = 6 ∨ m = 7 ∨ m = 8 ∨ m = 9 ∨ m = 10 ∨ m = 11 ∨ m = 12) with rfl | rfl | rfl | rfl | rfl | rfl | rfl | rfl | rfl | rfl | rfl | rfl <;> rfl
theorem monthDays_c (y m : Nat) (h : 1 <= m /\ m <= 12) (w : World) : Calls Tryz.prog 207 #[.int .i64 (y : Int), .int .i64 (m : Int)] w fun e w' => e = .returned (.int .i64 (mdays y m : Nat)) /\ Pu w w' := by
  refine F207_calls _ _ w _ (boxA rfl s184.symm rfl fun w1 hp1 _ hb1 => ?_)
  rw [wrap_in (n := (m : Int) - 1) (by omega) (by omega)]
  have em : ((m : Int) - 1).toNat * 1 = m - 1 := by omega
  have hc : ∀ {wz : World}, Pu w1 wz -> wz.cell? ((⟨w.heap.size, 0, none⟩ : Addr).add (((m : Int) - 1).toNat * 1)) = some (.int .i64 ((if m = 2 then 28 else if m = 4 ∨ m = 6 ∨ m = 9 ∨ m = 11 then 30 else 31 : Nat) : Int)) := fun {wz} hz => by
    rw [em, cl (hz.blk hb1)]; exact md_at h
  refine Br.of (fun d => (leap_c y w1).mono ?_) (fun d => ⟨by omega, by omega, _, hc (Pu.refl _), ?_, hp1⟩)
  · have d := btrue d
    have d : m = 2 := by omega
    rintro e w2 ⟨rfl, hp2⟩
    refine ⟨_, rfl, Br.of (fun d1 => ⟨?_, hp1.trans hp2⟩) (fun d1 => ⟨by omega, by omega, _, hc hp2, ?_, hp1.trans hp2⟩)⟩
    · unfold mdays; rw [if_pos d, if_pos d1]; rfl
    · unfold mdays; rw [if_pos d, if_pos d, if_neg (by rw [d1]; simp)]
  · have d := bfalse d
    have d : ¬ m = 2 := by omega
    unfold mdays; rw [if_neg d, if_neg d]
theorem yearsDays_c (y : Nat) (h : 1 <= y /\ y <= 10000) (w : World) : Calls Tryz.prog 208 #[.int .i64 (y : Int)] w fun e w' => e = .returned (.int .i64 (yfirst y : Nat)) /\ Pu w w' := by
  obtain ⟨p, rfl⟩ : ∃ p, y = p + 1 := ⟨y - 1, by omega⟩
  have e0 : (((p + 1 : Nat) : Int) - 1) = (p : Int) := by omega
  have e4 := tdiv_nat p 4
  have e100 := tdiv_nat p 100
  have e400 := tdiv_nat p 400
  refine F208_calls _ w _ ⟨rfl, by decide, rfl, by decide, rfl, by decide, ?_, Pu.refl w⟩
  have e4 : (p : Int).tdiv 4 = ((p / 4 : Nat) : Int) := e4
  have e100 : (p : Int).tdiv 100 = ((p / 100 : Nat) : Int) := e100
  have e400 : (p : Int).tdiv 400 = ((p / 400 : Nat) : Int) := e400
  rw [e0, wrap_in (n := (p : Int)) (by omega) (by omega), e4, e100, e400, wrap_in (n := ((p / 4 : Nat) : Int)) (by omega) (by omega), wrap_in (n := ((p / 100 : Nat) : Int)) (by omega) (by omega), wrap_in (n := ((p / 400 : Nat) : Int)) (by omega) (by omega), wrap_in (n := 365 * (p : Int)) (by omega) (by omega), wrap_in (n := 365 * (p : Int) + _) (by omega) (by omega), wrap_in (n := 365 * (p : Int) + _ - _) (by omega) (by omega), wrap_in (by omega) (by omega)]
  unfold yfirst
  rw [Nat.add_sub_cancel]
  congr 2
  omega
def daysOut (y m d : Nat) : Ending := .returned (.tuple #[.int .i64 ((if IsDate y m d then dayOf y m d else 0 : Nat) : Int), .int .i64 (if IsDate y m d then 0 else 1)])
theorem mdays_le (y m : Nat) : mdays y m <= 31 /\ 28 <= mdays y m := by unfold mdays; split <;> (try split) <;> omega
theorem days_c (y m d : Nat) (w : World) : Calls Tryz.prog 205 #[.int .i64 (y : Int), .int .i64 (m : Int), .int .i64 (d : Int)] w fun e w' => e = daysOut y m d /\ Pu w w' := by
  have no : ¬ IsDate y m d -> ∀ {w'}, Pu w w' -> F205_5 (fun e w' => e = daysOut y m d /\ Pu w w') (y : Int) (m : Int) (d : Int) true [] w' := fun h w' hp => Br.t rfl ⟨by unfold daysOut; rw [if_neg h, if_neg h]; rfl, hp⟩
  refine F205_calls _ _ _ w _ ?_
  refine Br.of (fun d0 => no (fun h => by have := h.1; have := dtrue d0; omega) (Pu.refl w)) (fun d0 => Br.of (fun d1 => no (fun h => by have := h.2.1; have := dtrue d1; omega) (Pu.refl w)) (fun d1 => Br.of (fun d2 => no (fun h => by have := h.2.2.1; have := dtrue d2; omega) (Pu.refl w)) (fun d2 => Br.of (fun d3 => no (fun h => by have := h.2.2.2.1; have := dtrue d3; omega) (Pu.refl w)) (fun d3 => Br.of (fun d4 => no (fun h => by have := h.2.2.2.2.1; have := dtrue d4; omega) (Pu.refl w)) (fun d4 => ?_)))))
  have d0 := dfalse d0
  have d1 := dfalse d1
  have d2 := dfalse d2
  have d3 := dfalse d3
  have d4 := dfalse d4
  refine (monthDays_c y m (by omega) w).mono ?_
  rintro e w1 ⟨rfl, hp1⟩
  refine ⟨_, rfl, ?_⟩
  by_cases hd : d <= mdays y m
  · have hD : IsDate y m d := ⟨by omega, by omega, by omega, by omega, by omega, hd⟩
    have hml := mdays_le y m
    rw [decide_eq_false (by omega)]
    refine Br.f rfl ((yearsDays_c y (by omega) w1).mono ?_)
    rintro e w2 ⟨rfl, hp2⟩
    have hyl := yfirst_le (y := y) (by omega)
    refine ⟨_, rfl, ?_⟩
    rw [wrap_in (n := ((yfirst y : Nat) : Int) + (d : Int)) (by omega) (by omega), wrap_in (n := (m : Int) - 1) (by omega) (by omega)]
    refine loopUp (m - 1) (fun k t w' => t.2 = (k : Int) /\ t.1 = ((yfirst y + d + mfirst y k : Nat) : Int) /\ Pu w w') ⟨rfl, by simp [mfirst], hp1.trans hp2⟩ ?_
    rintro k J ⟨t1, t2⟩ w3 hk ⟨h2, h1, hp⟩ hJ
    obtain rfl : t2 = (k : Int) := h2
    obtain rfl : t1 = ((yfirst y + d + mfirst y k : Nat) : Int) := h1
    dsimp only
    refine Br.of (fun d5 => ?_) (fun d5 => ?_)
    · have hk2 : k < m - 1 := by have := dtrue d5; omega
      rw [wrap_in (n := (k : Int) + 1) (by omega) (by omega)]
      refine (monthDays_c y (k + 1) (by omega) w3).mono ?_
      rintro e w4 ⟨rfl, hp4⟩
      have hmf := mfirst_le y k
      have hmd := mdays_le y (k + 1)
      refine ⟨_, rfl, ?_⟩
      rw [wrap_in (by omega) (by omega)]
      refine hJ _ _ hk2 ⟨by dsimp only; omega, ?_, hp.trans hp4⟩
      dsimp only [mfirst]; omega
    · have hk2 : k = m - 1 := by have := dfalse d5; omega
      subst hk2
      refine ⟨?_, hp⟩
      unfold daysOut dayOf; rw [if_pos hD, if_pos hD, show yfirst y + d + mfirst y (m - 1) = yfirst y + mfirst y (m - 1) + d by omega]
  · rw [decide_eq_true (by omega)]
    exact no (fun h => hd h.2.2.2.2.2) hp1
theorem rLeap_c (n : Nat) (w : World) : Calls Tryz.prog 179 #[.int .i64 (n : Int)] w fun e w' => e = .returned (.bool (leapN n)) /\ Pu w w' := by
  have e4 : (n : Int).tmod 4 = ((n % 4 : Nat) : Int) := tmod_nat n 4
  have e100 : (n : Int).tmod 100 = ((n % 100 : Nat) : Int) := tmod_nat n 100
  have e400 : (n : Int).tmod 400 = ((n % 400 : Nat) : Int) := tmod_nat n 400
  refine F179_calls _ w _ ⟨rfl, by decide, Br.of (fun d => ⟨rfl, by decide, Br.of (fun d1 => ⟨?_, Pu.refl w⟩) (fun d1 => ⟨rfl, by decide, ?_, Pu.refl w⟩)⟩) (fun d => ⟨rfl, by decide, ?_, Pu.refl w⟩)⟩
  · have d := btrue d; have d1 := bntrue d1
    rw [show leapN n = true from by unfold leapN; rw [decide_eq_true (show n % 4 = 0 by omega), decide_eq_true (show n % 100 ≠ 0 by omega)]; rfl]
  · have d := btrue d; have d1 := bnfalse d1
    rw [beq_dec, show leapN n = decide (n % 400 = 0) from by unfold leapN; rw [decide_eq_false (show ¬ n % 100 ≠ 0 by omega), Bool.and_false, Bool.false_or]]
    congr 2; simp only [decide_eq_decide]; omega
  · have d := bfalse d
    rw [beq_dec, show leapN n = decide (n % 400 = 0) from by unfold leapN; rw [decide_eq_false (show ¬ n % 4 = 0 by omega), Bool.false_and, Bool.false_or]]
    congr 2; simp only [decide_eq_decide]; omega
theorem rLen_c (y m : Nat) (w : World) : Calls Tryz.prog 155 #[.int .i64 (y : Int), .int .i64 (m : Int)] w fun e w' => e = .returned (.int .i64 (mdays y m : Nat)) /\ Pu w w' := by
  refine F155_calls _ _ w _ (Br.of (fun d => (rLeap_c y w).mono ?_) (fun d => ?_))
  · rintro e w1 ⟨rfl, hp1⟩
    have d : m = 2 := by have := btrue d; omega
    refine ⟨_, rfl, Br.of (fun d1 => ⟨?_, hp1⟩) (fun d1 => ⟨?_, hp1⟩)⟩
    · unfold mdays; rw [if_pos d, if_pos d1]; rfl
    · unfold mdays; rw [if_pos d, if_neg (by rw [d1]; simp)]; rfl
  have d : ¬ m = 2 := by have := bfalse d; omega
  have e30 : (m = 4 ∨ m = 6 ∨ m = 9 ∨ m = 11) -> mdays y m = 30 := fun h => by unfold mdays; rw [if_neg d, if_pos h]
  refine Br.of (fun d1 => ⟨by rw [e30 (by have := btrue d1; omega)]; rfl, Pu.refl w⟩) (fun d1 => Br.of (fun d2 => ⟨by rw [e30 (by have := btrue d2; omega)]; rfl, Pu.refl w⟩) (fun d2 => Br.of (fun d3 => ⟨by rw [e30 (by have := btrue d3; omega)]; rfl, Pu.refl w⟩) (fun d3 => Br.of (fun d4 => ⟨by rw [e30 (by have := btrue d4; omega)]; rfl, Pu.refl w⟩) (fun d4 => ⟨?_, Pu.refl w⟩))))
  have d1 := bfalse d1; have d2 := bfalse d2; have d3 := bfalse d3; have d4 := bfalse d4
  unfold mdays; rw [if_neg d, if_neg (by omega)]; rfl
theorem rDays_c (y m d : Nat) (w : World) : Calls Tryz.prog 129 #[.int .i64 (y : Int), .int .i64 (m : Int), .int .i64 (d : Int)] w fun e w' => e = daysOut y m d /\ Pu w w' := by
  have no : ¬ IsDate y m d -> ∀ {w'}, Pu w w' -> F129_5 (fun e w' => e = daysOut y m d /\ Pu w w') (y : Int) (m : Int) (d : Int) true [] w' := fun h w' hp => Br.t rfl ⟨by unfold daysOut; rw [if_neg h, if_neg h]; rfl, hp⟩
  refine F129_calls _ _ _ w _ ?_
  refine Br.of (fun d0 => no (fun h => by have := h.1; have := dtrue d0; omega) (Pu.refl w)) (fun d0 => Br.of (fun d1 => no (fun h => by have := h.2.1; have := dtrue d1; omega) (Pu.refl w)) (fun d1 => Br.of (fun d2 => no (fun h => by have := h.2.2.1; have := dtrue d2; omega) (Pu.refl w)) (fun d2 => Br.of (fun d3 => no (fun h => by have := h.2.2.2.1; have := dtrue d3; omega) (Pu.refl w)) (fun d3 => Br.of (fun d4 => no (fun h => by have := h.2.2.2.2.1; have := dtrue d4; omega) (Pu.refl w)) (fun d4 => ?_)))))
  have d0 := dfalse d0
  have d1 := dfalse d1
  have d2 := dfalse d2
  have d3 := dfalse d3
  have d4 := dfalse d4
  refine (rLen_c y m w).mono ?_
  rintro e w1 ⟨rfl, hp1⟩
  refine ⟨_, rfl, ?_⟩
  by_cases hd : d <= mdays y m
  · have hD : IsDate y m d := ⟨by omega, by omega, by omega, by omega, by omega, hd⟩
    have hml := mdays_le y m
    rw [decide_eq_false (by omega)]
    refine Br.f rfl (loopUp (m - 1) (fun k t w' => t.2 = ((k + 1 : Nat) : Int) /\ t.1 = ((d + mfirst y k : Nat) : Int) /\ Pu w w') ⟨rfl, by simp [mfirst], hp1⟩ ?_)
    rintro k J ⟨t1, t2⟩ w3 hk ⟨h2, h1, hp⟩ hJ
    obtain rfl : t2 = ((k + 1 : Nat) : Int) := h2
    obtain rfl : t1 = ((d + mfirst y k : Nat) : Int) := h1
    have hmf := mfirst_le y k
    dsimp only
    refine Br.of (fun d5 => ?_) (fun d5 => ?_)
    · have hk2 : k < m - 1 := by have := dtrue d5; omega
      refine (rLen_c y (k + 1) w3).mono ?_
      rintro e w4 ⟨rfl, hp4⟩
      have hmd := mdays_le y (k + 1)
      refine ⟨_, rfl, ?_⟩
      rw [wrap_in (n := ((k + 1 : Nat) : Int) + 1) (by omega) (by omega), wrap_in (by omega) (by omega)]
      refine hJ _ _ hk2 ⟨by dsimp only; omega, ?_, hp.trans hp4⟩
      dsimp only [mfirst]; omega
    · have hk2 : k = m - 1 := by have := dfalse d5; omega
      subst hk2
      obtain ⟨p, rfl⟩ : ∃ p, y = p + 1 := ⟨y - 1, by omega⟩
      have e0 : (((p + 1 : Nat) : Int) - 1) = (p : Int) := by omega
      have e4 : (p : Int).tdiv 4 = ((p / 4 : Nat) : Int) := tdiv_nat p 4
      have e100 : (p : Int).tdiv 100 = ((p / 100 : Nat) : Int) := tdiv_nat p 100
      have e400 : (p : Int).tdiv 400 = ((p / 400 : Nat) : Int) := tdiv_nat p 400
      refine ⟨rfl, by decide, rfl, by decide, rfl, by decide, ?_, hp⟩
      rw [e0, wrap_in (n := (p : Int)) (by omega) (by omega), e4, e100, e400, wrap_in (n := ((p / 4 : Nat) : Int)) (by omega) (by omega), wrap_in (n := ((p / 100 : Nat) : Int)) (by omega) (by omega), wrap_in (n := ((p / 400 : Nat) : Int)) (by omega) (by omega), wrap_in (n := 365 * (p : Int)) (by omega) (by omega), wrap_in (n := _ + 365 * (p : Int)) (by omega) (by omega), wrap_in (n := _ + 365 * (p : Int) + _) (by omega) (by omega), wrap_in (n := _ + 365 * (p : Int) + _ - _) (by omega) (by omega), wrap_in (by omega) (by omega)]
      unfold daysOut dayOf
      rw [if_pos hD, if_pos hD]
      unfold yfirst
      rw [Nat.add_sub_cancel]
      refine congrArg (fun z : Int => Ending.returned (.tuple #[.int .i64 z, .int .i64 0])) ?_
      omega
  · rw [decide_eq_true (by omega)]
    exact no (fun h => hd h.2.2.2.2.2) hp1
theorem valLoop {w0 w : World} (hp : Pu w0 w) (l : List UInt8) {sg X : Int} (hsg : sg = 1 ∨ sg = -1) (hl : l.length <= 140737488355328) (hX : X = sg * (digN 0 l : Nat)) :
    F206_5 (fun e w' => e = .returned (.int .i64 X) /\ Pu w0 w') (bs l) sg [] w := by
  have hs := bs_size l
  have fin : ∀ {a : Nat} {w' : World}, a <= 1000000000000000 -> a = digN 0 l -> Pu w0 w' -> F206_1 (fun e w' => e = .returned (.int .i64 X) /\ Pu w0 w') sg (a : Int) [] w' := fun {a w'} h1 h2 h3 => by
    refine ⟨?_, h3⟩
    rw [hX, ← h2]
    rcases hsg with h | h
    · rw [h, wrap_in (by omega) (by omega)]
    · rw [h, wrap_in (by omega) (by omega)]
  refine loopUp l.length (fun k t w' => t.2 = (k : Int) /\ ∃ a : Nat, t.1 = (a : Int) /\ a <= 1000000000000000 /\ digN a (l.drop k) = digN 0 l /\ Pu w0 w') ⟨rfl, 0, rfl, by omega, rfl, hp⟩ ?_
  rintro k J ⟨t1, t2⟩ w2 hk ⟨h2, a, h1, ha, hd, hp2⟩ hJ
  obtain rfl : t2 = (k : Int) := h2
  obtain rfl : t1 = (a : Int) := h1
  dsimp only
  refine Br.of (fun d => ?_) (fun d => ?_)
  · have hk2 : k < l.length := by have := dtrue d; omega
    obtain ⟨b, hb⟩ := at_k hk2
    have hbb : (bs l)[((k : Int)).toNat]? = some b := byte_list (by rw [bs_list]; exact hb)
    rw [drop_at hb] at hd
    refine ⟨b, by omega, hbb, Br.of (fun d1 => ?_) (fun d1 => ⟨b, by omega, hbb, Br.of (fun d2 => ?_) (fun d2 => ⟨b, by omega, hbb, ?_⟩)⟩)⟩
    · refine fin ha ?_ hp2
      rw [digN, digB_out (by have := dtrue d1; omega)] at hd
      simpa using hd
    · refine fin ha ?_ hp2
      rw [digN, digB_out (by have := dtrue d2; omega)] at hd
      simpa using hd
    · have d1 := dfalse d1
      have d2 := dfalse d2
      have hb2 : 48 <= b.toNat /\ b.toNat <= 57 := by omega
      rw [dig_expr hb2, wrap_in (n := (a : Int) * 10) (by omega) (by omega), wrap_in (n := (a : Int) * 10 + _) (by omega) (by omega), wrap_in (n := (k : Int) + 1) (by omega) (by omega)]
      refine ⟨_, w2, min_run _ _ _ _ _ _, ?_⟩
      have e : digB b = true := by unfold digB; simp; omega
      rw [digN, e, if_pos rfl] at hd
      exact hJ _ _ hk2 ⟨by dsimp only; omega, min (10 * a + (b.toNat - 48)) 1000000000000000, by dsimp only; omega, Nat.min_le_right _ _, hd, hp2⟩
  · have hk2 : k = l.length := by have := dfalse d; omega
    subst hk2
    rw [List.drop_length] at hd
    exact fin ha hd hp2
theorem val_c (s : ByteArray) (hs : s.size <= 140737488355328) (w : World) : Calls Tryz.prog 206 #[.string s] w fun e w' => e = .returned (.int .i64 (valS s.data.toList)) /\ Pu w w' := by
  refine F206_calls _ w _ ((Any.strings_TrimLeft_one Tryz.lays161 s 32 (by decide) w).mono ?_)
  rintro e w1 ⟨rfl, rfl⟩
  have hT : Lib.trimLeftB s.data.toList 32 = s.data.toList.dropWhile (· == 32) := rfl
  rw [hT]
  have hlen : (s.data.toList.dropWhile (· == 32)).length <= s.size := by
    have := (List.dropWhile_suffix (· == (32 : UInt8)) (l := s.data.toList)).length_le
    rwa [size_list] at this
  refine ⟨_, rfl, ?_⟩
  rw [toList_nil]
  unfold valS
  cases hL : s.data.toList.dropWhile (· == 32) with
  | nil => exact Br.f (by simp [ByteArray.size]) (valLoop (Pu.refl _) [] (.inl rfl) (by simp) rfl)
  | cons b r =>
    rw [hL] at hlen
    simp only [List.length_cons] at hlen
    have h0 : (bs (b :: r))[((0 : Int)).toNat]? = some b := byte_list (by rw [bs_list]; rfl)
    refine Br.t (by rw [bs_size]; simp) ⟨b, by omega, h0, Br.of (fun d => ⟨b, by omega, h0, Br.of (fun d1 => ⟨Nat.le_refl _, by omega, by rw [bs_size]; show 1 <= _; simp, ?_⟩) (fun d1 => absurd (btrue d) (bfalse d1))⟩) (fun d => ⟨b, by omega, h0, Br.of (fun d1 => ⟨b, by omega, h0, Br.of (fun d2 => absurd (btrue d2) (bfalse d)) (fun d2 => ⟨Nat.le_refl _, by omega, by rw [bs_size]; show 1 <= _; simp, ?_⟩)⟩) (fun d1 => ?_)⟩)⟩
    · rw [extract1]
      refine valLoop (Pu.refl _) r (.inr rfl) (by omega) ?_
      rw [signN_cons, if_pos (by have := btrue d; omega)]; omega
    · rw [extract1]
      refine valLoop (Pu.refl _) r (.inl rfl) (by omega) ?_
      rw [signN_cons, if_neg (by have := bfalse d; omega), if_pos (by have := btrue d1; omega)]; omega
    · refine valLoop (Pu.refl _) (b :: r) (.inl rfl) (by simp; omega) ?_
      rw [signN_cons, if_neg (by have := bfalse d; omega), if_neg (by have := bfalse d1; omega)]; omega
theorem rValLoop {w0 w : World} (hp : Pu w0 w) (s : ByteArray) (k : Nat) (hk : k <= s.size) (hs : s.size <= 140737488355328) (neg : Bool) {X : Int} (hX : X = if neg then -(digN 0 (s.data.toList.drop k) : Int) else (digN 0 (s.data.toList.drop k) : Nat)) :
    F130_3 (fun e w' => e = .returned (.int .i64 X) /\ Pu w0 w') s (k : Int) neg 0 [] w := by
  have fin : ∀ {a : Nat} {w' : World}, a <= 1000000000000000 -> a = digN 0 (s.data.toList.drop k) -> Pu w0 w' -> F130_1 (fun e w' => e = .returned (.int .i64 X) /\ Pu w0 w') neg (a : Int) [] w' := fun {a w'} h1 h2 h3 => by
    refine Br.of (fun d => ⟨?_, h3⟩) (fun d => ⟨?_, h3⟩)
    · rw [hX, if_pos d, ← h2, wrap_in (by omega) (by omega), Int.zero_sub]
    · rw [hX, if_neg (by rw [d]; simp), ← h2]
  refine loopUp (s.size - k) (fun j t w' => t.1 = ((k + j : Nat) : Int) /\ ∃ a : Nat, t.2 = (a : Int) /\ a <= 1000000000000000 /\ digN a (s.data.toList.drop (k + j)) = digN 0 (s.data.toList.drop k) /\ Pu w0 w') ⟨rfl, 0, rfl, by omega, rfl, hp⟩ ?_
  rintro j J ⟨t1, t2⟩ w2 hj ⟨h1, a, h2, ha, hd, hp2⟩ hJ
  obtain rfl : t1 = ((k + j : Nat) : Int) := h1
  obtain rfl : t2 = (a : Int) := h2
  dsimp only
  refine Br.of (fun d => ?_) (fun d => ?_)
  · have hk2 : k + j < s.size := by have := dtrue d; omega
    obtain ⟨b, hb1, hb⟩ := at_byte hk2
    have hbb : s[(((k + j : Nat) : Int)).toNat]? = some b := hb1
    rw [drop_at hb] at hd
    refine ⟨b, by omega, hbb, (isDigit_c b w2).mono ?_⟩
    rintro e w3 ⟨rfl, hp3⟩
    refine ⟨_, rfl, Br.of (fun d1 => ⟨b, by omega, hbb, ?_⟩) (fun d1 => ?_)⟩
    · have hb2 := digB_in d1
      rw [dig_expr hb2, wrap_in (n := 10 * (a : Int)) (by omega) (by omega), wrap_in (n := 10 * (a : Int) + _) (by omega) (by omega), wrap_in (n := ((k + j : Nat) : Int) + 1) (by omega) (by omega)]
      refine ⟨_, w3, min_run _ _ _ _ _ _, ?_⟩
      rw [digN, d1, if_pos rfl] at hd
      exact hJ _ _ (by omega) ⟨by dsimp only; omega, min (10 * a + (b.toNat - 48)) 1000000000000000, by dsimp only; omega, Nat.min_le_right _ _, hd, hp2.trans hp3⟩
    · refine fin ha ?_ (hp2.trans hp3)
      rw [digN, d1] at hd
      simpa using hd
  · have hk2 : k + j = s.size := by have := dfalse d; omega
    rw [hk2, List.drop_eq_nil_of_le (by rw [size_list]; exact Nat.le_refl _)] at hd
    exact fin ha hd hp2
theorem rVal_c (s : ByteArray) (hs : s.size <= 140737488355328) (w : World) : Calls Tryz.prog 130 #[.string s] w fun e w' => e = .returned (.int .i64 (valS s.data.toList)) /\ Pu w w' := by
  refine F130_calls _ w _ (loopUp s.size (fun k t w' => t = (k : Int) /\ s.data.toList.dropWhile (· == 32) = (s.data.toList.drop k).dropWhile (· == 32) /\ Pu w w') ⟨rfl, rfl, Pu.refl w⟩ ?_)
  rintro k J t w2 hk ⟨ht, hd, hp⟩ hJ
  obtain rfl : t = (k : Int) := ht
  have tail : s.data.toList.dropWhile (· == 32) = s.data.toList.drop k -> F130_5 (fun e w' => e = .returned (.int .i64 (valS s.data.toList)) /\ Pu w w') s (k : Int) [] w2 := fun hT => by
    unfold valS
    rw [hT]
    refine Br.of (fun d => ?_) (fun d => ?_)
    · have hk2 : k < s.size := by have := dtrue d; omega
      obtain ⟨b, hb1, hb⟩ := at_byte hk2
      have hbb : s[((k : Int)).toNat]? = some b := hb1
      have hdr := drop_at hb
      refine ⟨b, by omega, hbb, Br.of (fun d1 => ⟨b, by omega, hbb, ?_⟩) (fun d1 => ⟨b, by omega, hbb, Br.of (fun d2 => ⟨b, by omega, hbb, ?_⟩) (fun d2 => ?_)⟩)⟩
      · rw [wrap_in (by omega) (by omega), show (k : Int) + 1 = ((k + 1 : Nat) : Int) by omega]
        refine rValLoop hp s (k + 1) hk2 hs _ ?_
        rw [hdr, d1, if_pos rfl]; rw [signN_cons, if_pos (by have := btrue d1; omega)]
      · rw [wrap_in (by omega) (by omega), show (k : Int) + 1 = ((k + 1 : Nat) : Int) by omega]
        refine rValLoop hp s (k + 1) hk2 hs _ ?_
        rw [hdr, d1, if_neg (by simp)]; rw [signN_cons, if_neg (by have := bfalse d1; omega), if_pos (by have := btrue d2; omega)]
      · refine rValLoop hp s k hk hs false ?_
        rw [if_neg (by simp), hdr]; rw [signN_cons, if_neg (by have := bfalse d1; omega), if_neg (by have := bfalse d2; omega)]
    · refine rValLoop hp s k hk hs false ?_
      have hk2 : k = s.size := by have := dfalse d; omega
      rw [if_neg (by simp), List.drop_eq_nil_of_le (by rw [size_list]; omega)]; rfl
  refine Br.of (fun d => ?_) (fun d => ?_)
  · have hk2 : k < s.size := by have := dtrue d; omega
    obtain ⟨b, hb1, hb⟩ := at_byte hk2
    have hbb : s[((k : Int)).toNat]? = some b := hb1
    rw [drop_at hb] at hd
    refine ⟨b, by omega, hbb, Br.of (fun d1 => ?_) (fun d1 => tail ?_)⟩
    · have e : b = 32 := by apply UInt8.toNat_inj.1; have := btrue d1; show b.toNat = 32; omega
      rw [wrap_in (by omega) (by omega)]
      refine hJ _ _ hk2 ⟨by omega, ?_, hp⟩
      rw [hd, e]; rfl
    · have e : (b == 32) = false := by
        have := bfalse d1
        simp only [beq_eq_false_iff_ne, ne_eq]
        intro h; subst h; exact this rfl
      rw [hd, drop_at hb]
      simp [List.dropWhile_cons, e]
  · have hk2 : k = s.size := by have := dfalse d; omega
    refine tail ?_
    have hn : s.data.toList.drop k = [] := List.drop_eq_nil_of_le (by rw [size_list]; omega)
    rw [hd, hn]; rfl
theorem trimD_c (s : ByteArray) (hs : s.size <= 9223372036854775807) (w : World) : Calls Tryz.prog 72 #[.string s, .string ⟨#[48, 49, 50, 51, 52, 53, 54, 55, 56, 57]⟩] w
    fun e w' => e = .returned (.string ⟨(Lib.trimS s.data.toList dset).toArray⟩) /\ Pu w w' :=
  Any.strings_Trim_laid Tryz.lays160 u110 s ⟨#[48, 49, 50, 51, 52, 53, 54, 55, 56, 57]⟩ w hs (by decide) (ascii_of_all (by decide))
theorem unstamp_c (s : ByteArray) (hs : s.size <= 140737488355328) (w : World) : Calls Tryz.prog 202 #[.string s] w fun e w' => e = .returned (.tuple #[.int .i64 (unstampS s.data.toList).1, .bool (unstampS s.data.toList).2]) /\ Pu w w' := by
  refine F202_calls _ w _ ?_
  rw [F202_1, blanks8]
  refine Br.of (fun d => ⟨by unfold unstampS; rw [if_pos (dtrue d)], Pu.refl w⟩) (fun d => Br.of (fun d1 => ⟨?_, Pu.refl w⟩) (fun d1 => (trimD_c s (by omega) w).mono ?_))
  · unfold unstampS; rw [if_neg (dfalse d), if_pos (by rw [size_list]; have := bntrue d1; omega)]
  have h8 : s.size = 8 := by have := bnfalse d1; omega
  rintro e w1 ⟨rfl, hp1⟩
  have e2 : ((ByteArray.mk (Lib.trimS s.data.toList dset).toArray).toList == (⟨#[]⟩ : ByteArray).toList) = s.data.toList.all digB := by
    rw [toList_nil]
    have h1 : ((ByteArray.mk (Lib.trimS s.data.toList dset).toArray).size = 0) ↔ s.data.toList.all (dset.contains ·) = true := by
      rw [← trimS_nil]; simp [ByteArray.size]
    rw [show digB = (dset.contains ·) from funext fun b => (dset_eq b).symm]
    rw [Bool.eq_iff_iff, decide_eq_true_iff]; exact h1
  refine ⟨_, rfl, ?_⟩
  rw [e2]
  have eU : unstampS s.data.toList = if s.data.toList.all digB then dateS (digN 0 (s.data.toList.take 4)) (digN 0 ((s.data.toList.drop 4).take 2)) (digN 0 (s.data.toList.drop 6)) else (0, false) := by
    unfold unstampS; rw [if_neg (dfalse d), if_neg (by rw [size_list]; omega)]
  refine Br.of (fun d2 => ⟨by rw [eU, if_neg (by simpa using d2)], hp1⟩) (fun d2 => dwE_intro fun w2 hp2 _ => ?_)
  have hall : s.data.toList.all digB = true := by simpa using d2
  obtain ⟨x1, x2, x3⟩ := ext3 h8
  refine ⟨by omega, by rw [h8]; decide, by decide, by omega, by rw [h8]; decide, by omega, by decide, Nat.le_refl _, by omega, by rw [h8]; decide, (val_c _ (by rw [← size_list, x1, List.length_take]; omega) w2).mono ?_⟩
  rintro e w3 ⟨rfl, hp3⟩
  refine ⟨_, rfl, (val_c _ (by rw [← size_list, x2, List.length_take]; omega) w3).mono ?_⟩
  rintro e w4 ⟨rfl, hp4⟩
  refine ⟨_, rfl, (val_c _ (by rw [← size_list, x3, List.length_drop, size_list]; omega) w4).mono ?_⟩
  rintro e w5 ⟨rfl, hp5⟩
  rw [x1, x2, x3, valS_digits (all_take_of hall 4), valS_digits (all_take_of (all_drop_of hall 4) 2), valS_digits (all_drop_of hall 6)]
  refine ⟨_, rfl, (days_c _ _ _ w5).mono ?_⟩
  rintro e w6 ⟨rfl, hp6⟩
  refine ⟨_, _, rfl, ?_, (((hp1.trans hp2).trans hp3).trans (hp4.trans hp5)).trans hp6⟩
  rw [eU, if_pos hall]
  unfold dateS
  by_cases hD : IsDate (digN 0 (s.data.toList.take 4)) (digN 0 ((s.data.toList.drop 4).take 2)) (digN 0 (s.data.toList.drop 6))
  · rw [if_pos hD, if_pos hD, decide_eq_true hD]; rfl
  · rw [if_neg hD, if_neg hD, decide_eq_false hD]; rfl
theorem rUnstamp_c (s : ByteArray) (hs : s.size <= 140737488355328) (w : World) : Calls Tryz.prog 97 #[.string s] w fun e w' => e = .returned (.tuple #[.int .i64 (unstampS s.data.toList).1, .bool (unstampS s.data.toList).2]) /\ Pu w w' := by
  refine F97_calls _ w _ ?_
  rw [F97_5, blanks8]
  refine Br.of (fun d => ⟨by unfold unstampS; rw [if_pos (dtrue d)], Pu.refl w⟩) (fun d => Br.of (fun d1 => ⟨?_, Pu.refl w⟩) (fun d1 => ?_))
  · unfold unstampS; rw [if_neg (dfalse d), if_pos (by rw [size_list]; have := bntrue d1; omega)]
  have h8 : s.size = 8 := by have := bnfalse d1; omega
  have eU : unstampS s.data.toList = if s.data.toList.all digB then dateS (digN 0 (s.data.toList.take 4)) (digN 0 ((s.data.toList.drop 4).take 2)) (digN 0 (s.data.toList.drop 6)) else (0, false) := by
    unfold unstampS; rw [if_neg (dfalse d), if_neg (by rw [size_list]; omega)]
  refine loopUp 8 (fun k t w' => t = (k : Int) /\ (s.data.toList.take k).all digB = true /\ Pu w w') ⟨rfl, rfl, Pu.refl w⟩ ?_
  rintro k J t w1 hk ⟨ht, hal, hp1⟩ hJ
  obtain rfl : t = (k : Int) := ht
  refine Br.of (fun d2 => ?_) (fun d2 => dwE_intro fun w2 hp2 _ => ?_)
  · have hk2 : k < 8 := by have := dtrue d2; omega
    obtain ⟨b, hb1, hb⟩ := at_byte (s := s) (k := k) (by omega)
    have hbb : s[((k : Int)).toNat]? = some b := hb1
    refine ⟨b, by omega, hbb, (isDigit_c b w1).mono ?_⟩
    rintro e w2 ⟨rfl, hp2⟩
    refine ⟨_, rfl, Br.of (fun d3 => ⟨?_, hp1.trans hp2⟩) (fun d3 => ?_)⟩
    · rw [eU, if_neg]
      intro hA
      have := List.all_eq_true.1 hA b (List.mem_of_getElem? hb)
      rw [this] at d3; cases d3
    · rw [wrap_in (by omega) (by omega)]
      exact hJ _ _ hk2 ⟨by omega, by rw [all_take _ hb, hal]; simpa using d3, hp1.trans hp2⟩
  have hk2 : k = 8 := by have := dfalse d2; omega
  subst hk2
  have hall : s.data.toList.all digB = true := by
    rw [List.take_of_length_le (by rw [size_list]; omega)] at hal; exact hal
  obtain ⟨x1, x2, x3⟩ := ext3 h8
  refine ⟨by omega, by rw [h8]; decide, by decide, by omega, by rw [h8]; decide, by omega, by decide, Nat.le_refl _, by omega, by rw [h8]; decide, (rVal_c _ (by rw [← size_list, x1, List.length_take]; omega) w2).mono ?_⟩
  rintro e w3 ⟨rfl, hp3⟩
  refine ⟨_, rfl, (rVal_c _ (by rw [← size_list, x2, List.length_take]; omega) w3).mono ?_⟩
  rintro e w4 ⟨rfl, hp4⟩
  refine ⟨_, rfl, (rVal_c _ (by rw [← size_list, x3, List.length_drop, size_list]; omega) w4).mono ?_⟩
  rintro e w5 ⟨rfl, hp5⟩
  rw [x1, x2, x3, valS_digits (all_take_of hall 4), valS_digits (all_take_of (all_drop_of hall 4) 2), valS_digits (all_drop_of hall 6)]
  refine ⟨_, rfl, (rDays_c _ _ _ w5).mono ?_⟩
  rintro e w6 ⟨rfl, hp6⟩
  refine ⟨_, _, rfl, ?_, (((hp1.trans hp2).trans hp3).trans (hp4.trans hp5)).trans hp6⟩
  rw [eU, if_pos hall]
  unfold dateS
  by_cases hD : IsDate (digN 0 (s.data.toList.take 4)) (digN 0 ((s.data.toList.drop 4).take 2)) (digN 0 (s.data.toList.drop 6))
  · rw [if_pos hD, if_pos hD, decide_eq_true hD]; rfl
  · rw [if_neg hD, if_neg hD, decide_eq_false hD]; rfl
end Go.Proofs.YtjbfehippchniaaGreatDoor

/- Lex: ends of lines, texts in quotes, dates and signs, as the scanner takes them. No condition but those stated. -/
set_option maxRecDepth 100000
set_option linter.unusedVariables false
set_option linter.unusedSimpArgs false
namespace Go.Proofs.YtjbfehippchniaaGreatDoor
open Go.Sh Go.Sh.Lx Go.RowKit
variable {w0 w w' : World} {b p : Nat} {d : List UInt8} {l g : Bool} {bad : Int}
theorem s49 : sizeB Tryz.prog 30 = 3 := by kernel_rfl
def zeroT : Tok := ⟨0, 0, ⟨#[]⟩⟩
def retE (t : Tok) (k : Bool) : Ending := .returned (.tuple #[.agg (tokV t).toArray, .bool k])
abbrev TokB (w : World) (r : Nat) (t : Tok) : Prop := w.heap[r]? = some (.cells (tokV t).toArray 30)
theorem outT {r : Nat} {t0 t : Tok} {k : Bool} {R : Rt} (hb : TokB w r t0) (hR : ∀ w', Fr (· = r) w w' -> R (retE t k) w') :
    stA Tryz.prog 30 (⟨r, 0, none⟩ : Addr) #[.int .i64 t.kind, .int .i64 t.at_, .string t.text] w fun w' => ∃ n0 : Int, w'.cell? ((⟨r, 0, none⟩ : Addr).add 0) = some (.int .i64 n0) /\ ∃ n1 : Int, w'.cell? ((⟨r, 0, none⟩ : Addr).add 1) = some (.int .i64 n1) /\
      ∃ s2 : ByteArray, w'.cell? ((⟨r, 0, none⟩ : Addr).add 2) = some (.string s2) /\ R (.returned (.tuple #[.agg #[.int .i64 n0, .int .i64 n1, .string s2], .bool k])) w' :=
  stA_fill hb s49.symm rfl rfl fun w' hb' hf _ => ⟨_, cl hb' 0, _, cl hb' 1, _, cl hb' 2, hR w' hf⟩
theorem calls_by {f : FuncId} {args : Array Value} {w : World} {post : Rt} {F : Rt -> Prop} (hc : ∀ R, F R -> Calls Tryz.prog f args w R) (H : ∀ R : Rt, (∀ e w', post e w' -> R e w') -> F R) : Calls Tryz.prog f args w post := hc _ (H _ fun _ _ h => h)
theorem end_c (h : Sc w0 w b d p l g bad) : Calls Tryz.prog 167 #[.pointer (some ⟨b, 0, none⟩)] w fun e w' => Fr (· = b) w w' /\
    if p = d.length then e = retE (if l then endT p else zeroT) true /\ Sc w0 w' b d p false false bad else e = retE (if l then endT p else zeroT) l /\ Sc w0 w' b d (p + 1) false false bad := by
  have hlim := h.lim
  have hbl := blk_lt h.blk
  have hle := h.le
  refine calls_by (F167_calls _ w) fun R hR => alB fun w1 hp1 hb1 => ?_
  have hlt1 := hp1.size
  refine ⟨_, (h.pu hp1).at_, alB fun w2 hp2 hb2 => ?_⟩
  have hlt2 := blk_lt hb1
  have hlt3 := hp2.size
  have hb1 := hp2.blk hb1
  refine stA_fill hb2 s49.symm rfl rfl fun w3 hb3 hf3 hz3 => dwE_intro fun w4 hp4 hh4 => ?_
  have h3 := (h.pu (hp1.trans hp2)).fr hf3 (by omega) (fun i hi => by rw [show i = _ from hi]; have := h.since.size; omega)
  have h4 := h3.pu hp4
  have hb1 := hp4.blk (hf3.blk hb1 (by omega))
  have hb3 := hp4.blk hb3
  have fr4 : Fr (· = b) w w4 := (Fr.pu (Pu.andNew (hp1.trans hp2) hf3 (fun i hi => by rw [show i = _ from hi]; omega) |>.trans hp4) : Fr (· = b) w w4)
  refine ⟨_, h4.ln, _, h4.at_, _, h4.s, ?_⟩
  refine h4.st_ln fun w5 h5 hf5 => ?_
  refine h5.st_bg fun w6 h6 hf6 => ?_
  have fr6 := frb (frb fr4 hf5) hf6
  have hb1 := hf6.blk (hf5.blk hb1 (by omega)) (by omega)
  have hb3 := hf6.blk (hf5.blk hb3 (by omega)) (by omega)
  -- what is handed back
  have fin : ∀ {w7 : World} {p' : Nat} (k : Bool), Sc w0 w7 b d p' false false bad -> Fr (· = b) w6 w7 -> ∀ {t : Tok}, (∀ w', Sc w0 w' b d p' false false bad -> Fr (· = b) w w' -> R (retE t k) w') ->
      stA Tryz.prog 30 (⟨w.heap.size, 0, none⟩ : Addr) #[.int .i64 t.kind, .int .i64 t.at_, .string t.text] w7 fun w' => ∃ n0 : Int, w'.cell? ((⟨w.heap.size, 0, none⟩ : Addr).add 0) = some (.int .i64 n0) /\ ∃ n1 : Int, w'.cell? ((⟨w.heap.size, 0, none⟩ : Addr).add 1) = some (.int .i64 n1) /\
      ∃ s2 : ByteArray, w'.cell? ((⟨w.heap.size, 0, none⟩ : Addr).add 2) = some (.string s2) /\ R (.returned (.tuple #[.agg #[.int .i64 n0, .int .i64 n1, .string s2], .bool k])) w' := fun {w7 p'} k h7 hf7 {t} hR => by
    refine outT (t0 := zeroT) (hf7.blk hb1 (by omega)) fun w8 hf8 => hR w8 (h7.fr hf8 (by omega) (fun i hi => by rw [show i = _ from hi]; have := h.since.size; omega)) ?_
    exact (frb fr6 hf7).trans hf8 (fun i hi hlt => by rw [show i = _ from hi] at hlt; omega)
  refine Br.of (fun q => ?_) (fun q => ?_)
  · have q : ((p : Int) == (((bs d).size : Nat) : Int)) = false := by simpa using q
    have q := bfalse q
    rw [bs_size_i] at q
    refine ⟨_, h6.at_, h6.st_at (p' := p + 1) (by omega) (by rw [wrap_in (by omega) (by omega)]; omega) fun w7 h7 hf7 => ?_⟩
    refine Br.of (fun ql => ?_) (fun ql => ?_)
    · subst ql
      have hb3 := hf7.blk hb3 (by omega)
      exact ⟨_, cl hb3 0, _, cl hb3 1, _, cl hb3 2, fin true h7 hf7 (t := endT p) fun w8 h8 hf8 => hR _ _ ⟨hf8, by rw [if_neg (by omega)]; exact ⟨rfl, h8⟩⟩⟩
    · subst ql
      have e : ((p : Int) == (((bs d).size : Nat) : Int)) = false := by rw [beq_eq_false_iff_ne, bs_size_i]; omega
      rw [e]
      exact fin false h7 hf7 (t := zeroT) fun w8 h8 hf8 => hR _ _ ⟨hf8, by rw [if_neg (by omega)]; exact ⟨rfl, h8⟩⟩
  · have q : ((p : Int) == (((bs d).size : Nat) : Int)) = true := by simpa using q
    have q2 := btrue q
    rw [bs_size_i] at q2
    rw [q]
    refine Br.of (fun ql => ?_) (fun ql => ?_)
    · subst ql
      exact ⟨_, cl hb3 0, _, cl hb3 1, _, cl hb3 2, fin true h6 (Fr.refl _ _) (t := endT p) fun w8 h8 hf8 => hR _ _ ⟨hf8, by rw [if_pos (by omega)]; exact ⟨rfl, h8⟩⟩⟩
    · subst ql
      exact fin true h6 (Fr.refl _ _) (t := zeroT) fun w8 h8 hf8 => hR _ _ ⟨hf8, by rw [if_pos (by omega)]; exact ⟨rfl, h8⟩⟩
end Go.Proofs.YtjbfehippchniaaGreatDoor
