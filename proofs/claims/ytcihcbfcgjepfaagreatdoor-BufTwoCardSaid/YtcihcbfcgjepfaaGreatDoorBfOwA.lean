import Derived.Test.YtcihcbfcgjepfaaGreatDoorShNine
import Derived.Test.YtcihcbfcgjepfaaGreatDoorShSeventeen
import Derived.Test.YtcihcbfcgjepfaaGreatDoorBfPrA
import Derived.Test.YtcihcbfcgjepfaaGreatDoorShTwentyTwo
import Derived.Test.YtcihcbfcgjepfaaGreatDoorBtShelf
import Derived.Test.YtcihcbfcgjepfaaGreatDoorShThirteen
/- Table: data, and what is computed on it, in plain words. No condition. -/
set_option linter.unusedVariables false
set_option linter.unusedSimpArgs false
namespace Go.Proofs.YtcihcbfcgjepfaaGreatDoor
open Go.Sh Go.RowKit
theorem drop_at {α : Type} {l : List α} {k : Nat} {x : α} (h : l[k]? = some x) : l.drop k = x :: l.drop (k + 1) := by
  obtain ⟨h1, h2⟩ := List.getElem?_eq_some_iff.1 h
  rw [List.drop_eq_getElem_cons h1, h2]
theorem take_at {α : Type} {l : List α} {k : Nat} {x : α} (h : l[k]? = some x) : l.take (k + 1) = l.take k ++ [x] := by
  rw [List.take_add_one, h]; rfl
theorem at_k {α : Type} {l : List α} {k : Nat} (h : k < l.length) : ∃ x, l[k]? = some x := ⟨_, List.getElem?_eq_getElem h⟩
theorem add0 (a : Addr) : a.add 0 = a := by simp [Addr.add]
theorem toList_beq (s t : ByteArray) : (s.toList == t.toList) = decide (s = t) := by rw [← beq_toListBytes, beq_bytes]
theorem bytes_ext {s t : ByteArray} (h : s.data.toList = t.data.toList) : s = t := by
  obtain ⟨⟨a⟩⟩ := s; obtain ⟨⟨b⟩⟩ := t; simp at h; rw [h]
theorem size_list (s : ByteArray) : s.data.toList.length = s.size := by simp
abbrev bs (l : List UInt8) : ByteArray := ⟨l.toArray⟩
theorem bs_list (l : List UInt8) : (bs l).data.toList = l := by simp [bs]
theorem bs_size (l : List UInt8) : (bs l).size = l.length := by simp [bs, ByteArray.size]
structure Fld where
  name : ByteArray
  kind : Int
  width : Int
  null : Bool
deriving DecidableEq, Inhabited
structure Val where
  kind : Int
  n : Int
  s : ByteArray
deriving DecidableEq, Inhabited
structure Rec where
  gone : Bool
  v : List Val
deriving DecidableEq, Inhabited
structure Tbl where
  page : Int
  fields : List Fld
  recs : List Rec
deriving DecidableEq, Inhabited
def In64 (n : Int) : Prop := -9223372036854775808 <= n /\ n <= 9223372036854775807
instance : Enc Bool where
  sz := 1
  rd _ vs b := vs = [.bool b]
  len h := by rw [h]; rfl
  pu _ h := h
abbrev fldV (f : Fld) : List Value := [.string f.name, .int .i64 f.kind, .int .i64 f.width, .bool f.null]
abbrev valV (v : Val) : List Value := [.int .i64 v.kind, .int .i64 v.n, .string v.s]
instance : Enc Fld where
  sz := 4
  rd _ vs f := vs = fldV f /\ In64 f.kind /\ In64 f.width
  len h := by rw [h.1]; rfl
  pu _ h := h
instance : Lim Fld := ⟨fun f => Lim.ok f.name⟩
instance : Enc Val where
  sz := 3
  rd _ vs v := vs = valV v /\ In64 v.kind /\ In64 v.n
  len h := by rw [h.1]; rfl
  pu _ h := h
instance : Lim Val := ⟨fun v => Lim.ok v.s⟩
instance : Enc Rec where
  sz := 2
  rd w vs r := ∃ s : SV, vs = [.bool r.gone, .slice s.a s.len s.cap] /\ RdSl w s r.v
  len h := by obtain ⟨s, rfl, _⟩ := h; rfl
  pu hp h := let ⟨s, h1, h2⟩ := h; ⟨s, h1, h2.pu hp⟩
instance : Lim Rec := ⟨fun r => Lim.ok r.v⟩
structure RdTbl (w : World) (t : Tbl) (f r : SV) : Prop where
  page : In64 t.page
  fields : RdSl w f t.fields
  recs : RdSl w r t.recs
theorem RdTbl.pu {w w' : World} {t : Tbl} {f r : SV} (h : RdTbl w t f r) (hp : Pu w w') : RdTbl w' t f r := ⟨h.page, h.fields.pu hp, h.recs.pu hp⟩
instance : Enc Tbl where
  sz := 3
  rd w vs t := ∃ f r : SV, vs = [.int .i64 t.page, .slice f.a f.len f.cap, .slice r.a r.len r.cap] /\ RdTbl w t f r
  len h := by obtain ⟨f, r, rfl, _⟩ := h; rfl
  pu hp h := let ⟨f, r, h1, h2⟩ := h; ⟨f, r, h1, h2.pu hp⟩
instance : Lim Tbl := ⟨fun t => Lim.ok t.fields /\ Lim.ok t.recs⟩
theorem fldAt {w : World} {s : SV} {l : List Fld} (h : RdSl w s l) {i : Nat} {f : Fld} (hx : l[i]? = some f) : ∃ a, s.a = some a /\ i < s.len /\ In64 f.kind /\ In64 f.width /\
    w.cell? (a.add (i * 4)) = some (.string f.name) /\ w.cell? ((a.add (i * 4)).add 0) = some (.string f.name) /\ w.cell? ((a.add (i * 4)).add 1) = some (.int .i64 f.kind) /\ w.cell? ((a.add (i * 4)).add 2) = some (.int .i64 f.width) /\ w.cell? ((a.add (i * 4)).add 3) = some (.bool f.null) := by
  obtain ⟨a, ha, vs, ⟨rfl, h1⟩, h2⟩ := h.get i f hx
  have hi : i < l.length := (List.getElem?_eq_some_iff.1 hx).1
  have h2 : CellsAt w (a.add (i * 4)) (fldV f) := h2
  exact ⟨a, ha, by rw [h.len]; exact hi, h1.1, h1.2, by rw [← add0 (a.add _)]; exact h2 0 _ rfl, h2 0 _ rfl, h2 1 _ rfl, h2 2 _ rfl, h2 3 _ rfl⟩
theorem valAt {w : World} {s : SV} {l : List Val} (h : RdSl w s l) {i : Nat} {v : Val} (hx : l[i]? = some v) : ∃ a, s.a = some a /\ i < s.len /\ In64 v.kind /\ In64 v.n /\
    w.cell? ((a.add (i * 3)).add 0) = some (.int .i64 v.kind) /\ w.cell? ((a.add (i * 3)).add 1) = some (.int .i64 v.n) /\ w.cell? ((a.add (i * 3)).add 2) = some (.string v.s) := by
  obtain ⟨a, ha, vs, ⟨rfl, h1⟩, h2⟩ := h.get i v hx
  have hi : i < l.length := (List.getElem?_eq_some_iff.1 hx).1
  have h2 : CellsAt w (a.add (i * 3)) (valV v) := h2
  exact ⟨a, ha, by rw [h.len]; exact hi, h1.1, h1.2, h2 0 _ rfl, h2 1 _ rfl, h2 2 _ rfl⟩
theorem recAt {w : World} {s : SV} {l : List Rec} (h : RdSl w s l) {i : Nat} {r : Rec} (hx : l[i]? = some r) : ∃ a t, s.a = some a /\ i < s.len /\ RdSl w t r.v /\
    w.cell? ((a.add (i * 2)).add 0) = some (.bool r.gone) /\ w.cell? ((a.add (i * 2)).add 1) = some (.slice t.a t.len t.cap) := by
  obtain ⟨a, ha, vs, ⟨t, rfl, h1⟩, h2⟩ := h.get i r hx
  have hi : i < l.length := (List.getElem?_eq_some_iff.1 hx).1
  have h2 : CellsAt w (a.add (i * 2)) [.bool r.gone, .slice t.a t.len t.cap] := h2
  exact ⟨a, t, ha, by rw [h.len]; exact hi, h1, h2 0 _ rfl, h2 1 _ rfl⟩
def noV : Val := ⟨0, 0, ⟨#[]⟩⟩
def capB (b : UInt8) : Bool := decide (65 <= b.toNat) && decide (b.toNat <= 90)
def digB (b : UInt8) : Bool := decide (48 <= b.toNat) && decide (b.toNat <= 57)
def nameB (s : ByteArray) : Bool := decide (1 <= s.size) && decide (s.size <= 10) && s.data.toList.all (fun b => capB b || digB b || decide (b.toNat = 95)) && (s.data.toList.take 1).all capB
def kindW (k w : Int) : Bool := if k = 1 then decide (w = 1) else if k = 2 then decide (1 <= w) && decide (w <= 15) else if k = 3 then decide (w = 8) else if k = 4 then decide (1 <= w) && decide (w <= 254) else if k = 5 then decide (w = 8) else false
def fieldB (f : Fld) : Bool := nameB f.name && kindW f.kind f.width
def pageB (p : Int) : Bool := decide (0 <= p) && decide (p <= 2)
def onB (b : UInt8) (p : Int) : Bool := if p = 0 then decide (b.toNat < 128) else if p = 1 then true else decide (b.toNat < 176) || (decide (224 <= b.toNat) && decide (b.toNat < 240))
def textB (l : List UInt8) (p : Int) : Bool := l.all fun b => onB b p
def nulls (l : List Fld) : Nat := ((l.filter (·.null)).length + 7) / 8
def wide (l : List Fld) : Int := 1 + (nulls l : Int) + (l.map (·.width)).sum
def validF (l : List Fld) : Int := if l = [] ∨ l.all fieldB = false then 1 else if ¬ (l.map (·.name)).Nodup then 5 else if 16 < l.length ∨ 2000 < wide l then 3 else 0
def okN (k n : Int) : Bool := if k = 0 then decide (n = 0) else if k = 1 then decide (n = 0) || decide (n = 1) else if k = 2 then decide (-1000000000000000 <= n) && decide (n <= 1000000000000000) else if k = 3 then decide (0 <= n) && decide (n <= 3652059) else if k = 4 then decide (n = 0) else false
def validV (v : Val) : Int := if 2048 < v.s.size then 3 else if okN v.kind v.n && (decide (v.kind = 4) || decide (v.s.size = 0)) then 0 else 1
def decN (n : Nat) : List UInt8 := if h : n < 10 then [UInt8.ofNat (48 + n)] else decN (n / 10) ++ [UInt8.ofNat (48 + n % 10)]
 termination_by n
 decreasing_by omega
def decI (n : Int) : List UInt8 := if n < 0 then 45 :: decN n.natAbs else decN n.natAbs
def bare (l : List UInt8) : List UInt8 := (l.reverse.dropWhile (· == 32)).reverse
def memoN (n : Int) : Bool := decide (0 <= n) && decide (n <= 99999999)
def fitsV (f : Fld) (p : Int) (v : Val) : Bool :=
  if validV v ≠ 0 then false else if v.kind = 0 then f.null else if f.kind = 5 then decide (v.kind = 2) && memoN v.n else if v.kind ≠ f.kind then false
  else if f.kind = 2 then decide (((decI v.n).length : Int) <= f.width) else if f.kind = 4 then decide ((v.s.size : Int) <= f.width) && decide (bare v.s.data.toList = v.s.data.toList) && textB v.s.data.toList p else true
def emptyV (f : Fld) : Val := if f.kind = 5 then ⟨2, 0, ⟨#[]⟩⟩ else ⟨f.kind, 0, ⟨#[]⟩⟩
def fitted (f : Fld) (p : Int) (v : Val) : Val × Int :=
  if v.kind = 0 then (if f.null then (v, 0) else (noV, 7)) else if v.kind ≠ (emptyV f).kind then (noV, 6)
  else if f.kind = 4 then (if textB (bare (v.s.data.toList.take f.width.toNat)) p then (⟨4, 0, bs (bare (v.s.data.toList.take f.width.toNat))⟩, 0) else (noV, 10))
  else if fitsV f p v then (v, 0) else (noV, 10)
def fitS (f : Fld) (p : Int) (v : Val) : Val × Int := if fieldB f && pageB p then (if validV v ≠ 0 then (noV, validV v) else fitted f p v) else (noV, 1)
def validR (l : List Fld) (p : Int) (r : Rec) : Int := if r.v.length ≠ l.length then 10 else if (l.zip r.v).all (fun x => fitsV x.1 p x.2) then 0 else 1
def firstBad (l : List Fld) (p : Int) : List Rec -> Int
  | [] => 0
  | r :: rs => if validR l p r ≠ 0 then validR l p r else firstBad l p rs
def validT (t : Tbl) : Int := if pageB t.page then (if validF t.fields ≠ 0 then validF t.fields else if 300 < t.recs.length then 3 else firstBad t.fields t.page t.recs) else 1
end Go.Proofs.YtcihcbfcgjepfaaGreatDoor

/- Table: values, names, fields, pages: which are right. No condition. -/
set_option maxRecDepth 100000
set_option linter.unusedVariables false
set_option linter.unusedSimpArgs false
namespace Go.Proofs.YtcihcbfcgjepfaaGreatDoor
open Go.Sh Go.RowKit
theorem toList_nil (s : ByteArray) : (s.toList == (⟨#[]⟩ : ByteArray).toList) = decide (s.size = 0) := by
  rw [← beq_toListBytes, beq_bytes]
  by_cases h : s.size = 0
  · have : s = ⟨#[]⟩ := by
      obtain ⟨⟨l⟩⟩ := s
      cases l with
      | nil => rfl
      | cons a l => simp [ByteArray.size] at h
    simp [this]
    rfl
  · have : s ≠ ⟨#[]⟩ := fun e => h (by rw [e]; rfl)
    simp [this, h]
theorem alB {w : World} {c : Array Value} {e : TypeId} {K : Nat -> World -> Prop} (h : ∀ w1, Pu w w1 -> w1.heap[w.heap.size]? = some (.cells c e) -> K w.heap.size w1) : alE (.cells c e) w K :=
  h _ (Pu.alloc w _) (alloc_new w _)
theorem cl {w : World} {r : Nat} {c : Array Value} {e : TypeId} {f : Nat × Nat} (h : w.heap[r]? = some (.cells c e f)) (o : Nat) : w.cell? ((⟨r, 0, none⟩ : Addr).add o) = c[o]? := by rw [add_def, cell_blk h, Nat.zero_add]
theorem cl0 {w : World} {r : Nat} {c : Array Value} {e : TypeId} {f : Nat × Nat} (h : w.heap[r]? = some (.cells c e f)) : w.cell? (⟨r, 0, none⟩ : Addr) = c[0]? := cell_blk h 0
theorem btrue {a b : Int} (h : (a == b) = true) : a = b := by simpa using h
theorem bfalse {a b : Int} (h : (a == b) = false) : a ≠ b := by simpa using h
theorem bntrue {a b : Int} (h : (a != b) = true) : a ≠ b := by simpa using h
theorem bnfalse {a b : Int} (h : (a != b) = false) : a = b := by simpa using h
theorem isNum_c (n : Int) (w : World) : Calls Tryz.prog 158 #[.int .i64 n] w fun e w' => e = .returned (.bool (decide (-1000000000000000 <= n) && decide (n <= 1000000000000000))) /\ Pu w w' := by
  refine F158_calls _ w _ (Br.of (fun d => ?_) (fun d => ?_))
  · exact ⟨by rw [decide_eq_true (show -1000000000000000 <= n from dtrue d)]; rfl, Pu.refl w⟩
  · exact ⟨by rw [decide_eq_false (show ¬ -1000000000000000 <= n from dfalse d)]; rfl, Pu.refl w⟩
theorem inNum_c (n : Int) (w : World) : Calls Tryz.prog 98 #[.int .i64 n] w fun e w' => e = .returned (.bool (decide (-1000000000000000 <= n) && decide (n <= 1000000000000000))) /\ Pu w w' := by
  refine F98_calls _ w _ (Br.of (fun d => ?_) (fun d => ?_))
  · exact ⟨by rw [decide_eq_true (show -1000000000000000 <= n from dtrue d)]; rfl, Pu.refl w⟩
  · exact ⟨by rw [decide_eq_false (show ¬ -1000000000000000 <= n from dfalse d)]; rfl, Pu.refl w⟩
theorem isDay_c (n : Int) (w : World) : Calls Tryz.prog 188 #[.int .i64 n] w fun e w' => e = .returned (.bool (decide (0 <= n) && decide (n <= 3652059))) /\ Pu w w' := by
  refine F188_calls _ w _ (Br.of (fun d => ?_) (fun d => ?_))
  · exact ⟨by rw [decide_eq_true (show 0 <= n from dtrue d)]; rfl, Pu.refl w⟩
  · exact ⟨by rw [decide_eq_false (show ¬ 0 <= n from dfalse d)]; rfl, Pu.refl w⟩
def valueB (v : Val) : Bool := okN v.kind v.n && (decide (v.kind = 4) || decide (v.s.size = 0))
theorem isValue_c (v : Val) (w : World) : Calls Tryz.prog 152 #[.agg #[.int .i64 v.kind, .int .i64 v.n, .string v.s]] w fun e w' => e = .returned (.bool (valueB v)) /\ Pu w w' := by
  refine F152_calls _ _ _ w _ ?_
  refine alB fun w1 hp hb => ?_
  have fin : (v.kind = 4 -> v.n = 0) -> (v.kind ≠ 4 -> v.s.size = 0) -> F152_1 (fun e w' => e = .returned (.bool (valueB v)) /\ Pu w w') (some (⟨w.heap.size, 0, none⟩ : Addr)) v.kind [] w1 := fun h4 hs => by
    have e : valueB v = okN v.kind v.n := by
      unfold valueB
      by_cases h : v.kind = 4 <;> simp [h, hs]
    refine Br.of (fun d => ?_) (fun d => Br.of (fun d1 => ?_) (fun d1 => Br.of (fun d2 => ?_) (fun d2 => Br.of (fun d3 => ?_) (fun d3 => ?_))))
    · have d := btrue d
      refine ⟨_, cl hb 1, by rw [e, okN, if_pos d]; rfl, hp⟩
    · have d := bfalse d
      have d1 := btrue d1
      refine ⟨_, cl hb 1, Br.of (fun d2 => ?_) (fun d2 => ⟨_, cl hb 1, ?_, hp⟩)⟩
      · have d2 := btrue d2
        refine ⟨by rw [e, okN, if_neg d, if_pos d1, d2]; rfl, hp⟩
      · have d2 := bfalse d2
        rw [e, okN, if_neg d, if_pos d1, decide_eq_false d2]; rfl
    · have d := bfalse d
      have d1 := bfalse d1
      have d2 := btrue d2
      refine ⟨_, cl hb 1, (isNum_c v.n w1).mono ?_⟩
      rintro e' w2 ⟨rfl, hp2⟩
      exact ⟨_, rfl, by rw [e, okN, if_neg d, if_neg d1, if_pos d2], hp.trans hp2⟩
    · have d := bfalse d
      have d1 := bfalse d1
      have d2 := bfalse d2
      have d3 := btrue d3
      refine ⟨_, cl hb 1, (isDay_c v.n w1).mono ?_⟩
      rintro e' w2 ⟨rfl, hp2⟩
      exact ⟨_, rfl, by rw [e, okN, if_neg d, if_neg d1, if_neg d2, if_pos d3], hp.trans hp2⟩
    · have d := bfalse d
      have d1 := bfalse d1
      have d2 := bfalse d2
      have d3 := bfalse d3
      refine ⟨_, cl0 hb, ?_, hp⟩
      rw [e, okN, if_neg d, if_neg d1, if_neg d2, if_neg d3]
      by_cases h : v.kind = 4
      · simp [h, h4 h]
      · simp [h]
  have bad : valueB v = false -> (Ending.returned (Value.bool false) = Ending.returned (Value.bool (valueB v)) /\ Pu w w1) := fun h => ⟨by rw [h], hp⟩
  refine ⟨_, cl0 hb, Br.of (fun d => ⟨_, cl hb 2, ?_⟩) (fun d => ?_)⟩
  · have d := bntrue d
    rw [toList_nil]
    refine Br.of (fun d1 => ?_) (fun d1 => ⟨_, cl0 hb, Br.of (fun d2 => absurd (btrue d2) d) (fun d2 => ?_)⟩)
    · exact bad (by simp at d1; simp [valueB, d, d1])
    · exact ⟨_, cl0 hb, fin (fun h => absurd h d) (fun _ => by simpa using d1)⟩
  · have d := bnfalse d
    refine ⟨_, cl0 hb, Br.of (fun d1 => ⟨_, cl hb 1, ?_⟩) (fun d1 => absurd d (bfalse d1))⟩
    refine Br.of (fun d2 => ?_) (fun d2 => ⟨_, cl0 hb, fin (fun _ => bnfalse d2) (fun h => absurd d h)⟩)
    exact bad (by have := bntrue d2; simp [valueB, okN, d, this])
theorem validV_eq (v : Val) : validV v = if 2048 < v.s.size then 3 else if valueB v then 0 else 1 := rfl
theorem valid_c (v : Val) (w : World) : Calls Tryz.prog 107 #[.agg #[.int .i64 v.kind, .int .i64 v.n, .string v.s]] w fun e w' => e = .returned (.int .i64 (validV v)) /\ Pu w w' := by
  refine F107_calls _ _ _ w _ ?_
  refine alB fun w1 hp hb => ⟨v.s, cl hb 2, Br.of (fun d => ?_) (fun d => ?_)⟩
  · have : 2048 < v.s.size := by have := dtrue d; omega
    exact ⟨by rw [validV_eq, if_pos this], hp⟩
  · have hn : ¬ 2048 < v.s.size := by have := dfalse d; omega
    refine ⟨_, cl hb 0, _, cl hb 1, _, cl hb 2, (isValue_c v w1).mono ?_⟩
    rintro e w2 ⟨rfl, hp2⟩
    refine ⟨_, rfl, Br.of (fun d1 => ?_) (fun d1 => ?_)⟩
    · have d1 : valueB v = false := by simpa using d1
      exact ⟨by rw [validV_eq, if_neg hn, d1]; rfl, hp.trans hp2⟩
    · have d1 : valueB v = true := by simpa using d1
      exact ⟨by rw [validV_eq, if_neg hn, d1]; rfl, hp.trans hp2⟩
theorem rValid_c (v : Val) (w : World) : Calls Tryz.prog 45 #[.agg #[.int .i64 v.kind, .int .i64 v.n, .string v.s]] w fun e w' => e = .returned (.int .i64 (validV v)) /\ Pu w w' := by
  refine F45_calls _ _ _ w _ ?_
  refine alB fun w1 hp hb => ⟨v.s, cl hb 2, Br.of (fun d => ?_) (fun d => ?_)⟩
  · have : 2048 < v.s.size := by have := dtrue d; omega
    exact ⟨by rw [validV_eq, if_pos this], hp⟩
  · have hn : ¬ 2048 < v.s.size := by have := dfalse d; omega
    have fin : ∀ {b : Bool} {w2 : World}, b = okN v.kind v.n -> Pu w1 w2 -> F45_1 (fun e w' => e = .returned (.int .i64 (validV v)) /\ Pu w w') (some (⟨w.heap.size, 0, none⟩ : Addr)) b [] w2 := fun {b w2} h hp2 => by
      subst h
      have e1 : validV v = if valueB v then 0 else 1 := by rw [validV_eq, if_neg hn]
      have hb2 := hp2.blk hb
      refine Br.of (fun d1 => ?_) (fun d1 => ⟨_, cl0 hb2, Br.of (fun d2 => ⟨_, cl hb2 2, ?_⟩) (fun d2 => ?_)⟩)
      · exact ⟨by rw [e1, valueB, show okN v.kind v.n = false by simpa using d1]; rfl, hp.trans hp2⟩
      · have d1 : okN v.kind v.n = true := by simpa using d1
        have d2 := bntrue d2
        rw [toList_nil]
        refine Br.of (fun d3 => ?_) (fun d3 => ?_)
        · exact ⟨by simp at d3; rw [e1]; simp [valueB, d1, d2, d3], hp.trans hp2⟩
        · exact ⟨by simp at d3; rw [e1]; simp [valueB, d1, d2, d3], hp.trans hp2⟩
      · have d1 : okN v.kind v.n = true := by simpa using d1
        exact ⟨by rw [e1, valueB, d1, bnfalse d2]; rfl, hp.trans hp2⟩
    refine ⟨_, cl0 hb, Br.of (fun d0 => ⟨_, cl hb 1, fin ?_ (Pu.refl _)⟩) (fun d0 => Br.of (fun d1 => ⟨_, cl hb 1, Br.of (fun d2 => fin ?_ (Pu.refl _)) (fun d2 => ⟨_, cl hb 1, fin ?_ (Pu.refl _)⟩)⟩) (fun d1 => Br.of (fun d2 => ⟨_, cl hb 1, (inNum_c v.n w1).mono ?_⟩)
      (fun d2 => Br.of (fun d3 => ⟨_, cl hb 1, Br.of (fun d4 => ⟨_, cl hb 1, fin ?_ (Pu.refl _)⟩) (fun d4 => fin ?_ (Pu.refl _))⟩) (fun d3 => Br.of (fun d4 => ⟨_, cl hb 1, fin ?_ (Pu.refl _)⟩) (fun d4 => fin ?_ (Pu.refl _))))))⟩
    · rw [okN, if_pos (btrue d0)]; rfl
    · rw [okN, if_neg (bfalse d0), if_pos (btrue d1), btrue d2]; rfl
    · rw [okN, if_neg (bfalse d0), if_pos (btrue d1), decide_eq_false (bfalse d2)]; rfl
    · rintro e' w2 ⟨rfl, hp2⟩
      exact ⟨_, rfl, fin (by rw [okN, if_neg (bfalse d0), if_neg (bfalse d1), if_pos (btrue d2)]) hp2⟩
    · rw [okN, if_neg (bfalse d0), if_neg (bfalse d1), if_neg (bfalse d2), if_pos (btrue d3), decide_eq_true (show 0 <= v.n from dtrue d4)]; rfl
    · rw [okN, if_neg (bfalse d0), if_neg (bfalse d1), if_neg (bfalse d2), if_pos (btrue d3), decide_eq_false (show ¬ 0 <= v.n from dfalse d4)]; rfl
    · rw [okN, if_neg (bfalse d0), if_neg (bfalse d1), if_neg (bfalse d2), if_neg (bfalse d3), if_pos (btrue d4)]; rfl
    · rw [okN, if_neg (bfalse d0), if_neg (bfalse d1), if_neg (bfalse d2), if_neg (bfalse d3), if_neg (bfalse d4)]
end Go.Proofs.YtcihcbfcgjepfaaGreatDoor

/- Table: names, fields and pages: which are right. No condition. -/
set_option maxRecDepth 100000
set_option linter.unusedVariables false
set_option linter.unusedSimpArgs false
namespace Go.Proofs.YtcihcbfcgjepfaaGreatDoor
open Go.Sh Go.RowKit
structure K5 where
  letter : Int
  least : Int
  most : Int
  wr : Nat
  rd : Nat
def kindV (k : K5) : Value := .agg #[.int .u8 k.letter, .int .i64 k.least, .int .i64 k.most, .func (.func k.wr) #[] #[], .func (.func k.rd) #[] #[]]
abbrev intV (n : Int) : Value := .int .i64 n
def kindsL : List (Int × K5) := [(1, ⟨76, 1, 1, 177, 178⟩), (2, ⟨78, 1, 15, 179, 180⟩), (3, ⟨68, 8, 8, 181, 182⟩), (4, ⟨67, 1, 254, 183, 184⟩), (5, ⟨77, 8, 8, 185, 186⟩)]
theorem u104 : Tryz.prog.underlying 186 = some (.map 3 184) := by kernel_rfl
theorem keysI : Keys Tryz.prog 3 intV := keys_int (q := .i64) (by kernel_rfl)
theorem z102 (w : World) : (zeroValue 184).run Tryz.prog w = .ok (.agg #[.int .u8 0, .int .i64 0, .int .i64 0, .nilFunc, .nilFunc]) w := Tryz.zeroValue184 w
theorem kinds_c (w : World) : Calls Tryz.prog 150 #[] w fun e w' => ∃ b, e = .returned (.map (some b)) /\ MapAt w' intV kindV b kindsL /\ w.heap.size <= b /\ Pu w w' := by
  refine F150_calls w _ ?_
  refine alE_intro fun w1 hw1 => ?_
  have hp : Pu w w1 := by rw [hw1]; exact Pu.alloc w _
  have hm : MapAt w1 intV kindV w.heap.size ([] : List (Int × K5)) := by rw [hw1]; exact MapAt.new w _ _
  obtain ⟨w2, e2, h2, f2, _⟩ := hm.upd keysI u104 1 ⟨76, 1, 1, 177, 178⟩
  obtain ⟨w3, e3, h3, f3, _⟩ := h2.upd keysI u104 2 ⟨78, 1, 15, 179, 180⟩
  obtain ⟨w4, e4, h4, f4, _⟩ := h3.upd keysI u104 3 ⟨68, 8, 8, 181, 182⟩
  obtain ⟨w5, e5, h5, f5, _⟩ := h4.upd keysI u104 4 ⟨67, 1, 254, 183, 184⟩
  obtain ⟨w6, e6, h6, f6, _⟩ := h5.upd keysI u104 5 ⟨77, 8, 8, 185, 186⟩
  refine ⟨w2, e2, w3, e3, w4, e4, w5, e5, w6, e6, w.heap.size, rfl, h6, Nat.le_refl _, ?_⟩
  have n : ∀ i, i = w.heap.size -> w.heap.size <= i := fun i h => by omega
  exact ((((hp.andNew f2 n).andNew f3 n).andNew f4 n).andNew f5 n).andNew f6 n
def kindOf5 (k : Int) : Option K5 := AL.get kindsL k
theorem kind_look {w : World} {b : Nat} (h : MapAt w intV kindV b kindsL) (k : Int) (ok : Bool) : (Instr.lookup 186 (.map (some b)) (.int .i64 k) ok).run Tryz.prog w =
    .ok (if ok then .tuple #[(kindOf5 k).elim (.agg #[.int .u8 0, .int .i64 0, .int .i64 0, .nilFunc, .nilFunc]) kindV, .bool (kindOf5 k).isSome] else (kindOf5 k).elim (.agg #[.int .u8 0, .int .i64 0, .int .i64 0, .nilFunc, .nilFunc]) kindV) w :=
  h.look keysI u104 (z102 w) k ok
theorem kindOf5_cases (k : Int) : (k = 1 /\ kindOf5 k = some ⟨76, 1, 1, 177, 178⟩) ∨ (k = 2 /\ kindOf5 k = some ⟨78, 1, 15, 179, 180⟩) ∨ (k = 3 /\ kindOf5 k = some ⟨68, 8, 8, 181, 182⟩) ∨ (k = 4 /\ kindOf5 k = some ⟨67, 1, 254, 183, 184⟩) ∨ (k = 5 /\ kindOf5 k = some ⟨77, 8, 8, 185, 186⟩) ∨ (k ≠ 1 /\ k ≠ 2 /\ k ≠ 3 /\ k ≠ 4 /\ k ≠ 5 /\ kindOf5 k = none) := by
  by_cases h1 : k = 1
  · subst h1; exact .inl ⟨rfl, rfl⟩
  by_cases h2 : k = 2
  · subst h2; exact .inr (.inl ⟨rfl, rfl⟩)
  by_cases h3 : k = 3
  · subst h3; exact .inr (.inr (.inl ⟨rfl, rfl⟩))
  by_cases h4 : k = 4
  · subst h4; exact .inr (.inr (.inr (.inl ⟨rfl, rfl⟩)))
  by_cases h5 : k = 5
  · subst h5; exact .inr (.inr (.inr (.inr (.inl ⟨rfl, rfl⟩))))
  · refine .inr (.inr (.inr (.inr (.inr ⟨h1, h2, h3, h4, h5, ?_⟩))))
    simp [kindOf5, kindsL, AL.get, h1, h2, h3, h4, h5, Ne.symm h1, Ne.symm h2, Ne.symm h3, Ne.symm h4, Ne.symm h5]
def cset : List UInt8 := [65, 66, 67, 68, 69, 70, 71, 72, 73, 74, 75, 76, 77, 78, 79, 80, 81, 82, 83, 84, 85, 86, 87, 88, 89, 90, 48, 49, 50, 51, 52, 53, 54, 55, 56, 57, 95]
theorem cset_eq (b : UInt8) : cset.contains b = (capB b || digB b || decide (b.toNat = 95)) := by
  have h : ∀ n : Nat, n < 256 -> cset.contains (UInt8.ofNat n) = (capB (UInt8.ofNat n) || digB (UInt8.ofNat n) || decide ((UInt8.ofNat n).toNat = 95)) := by decide +kernel
  have := h b.toNat b.toNat_lt
  rwa [UInt8.ofNat_toNat] at this
theorem dropWhile_nil {α : Type} (p : α -> Bool) : ∀ l : List α, l.dropWhile p = [] ↔ l.all p = true
  | [] => by simp
  | a :: l => by
    by_cases h : p a = true
    · rw [List.dropWhile_cons, if_pos h, dropWhile_nil p l]; simp [h]
    · simp [List.dropWhile, h]
theorem dropWhile_all {α : Type} (p : α -> Bool) : ∀ l : List α, (l.dropWhile p).all p = true ↔ l.all p = true
  | [] => by simp
  | a :: l => by
    by_cases h : p a = true
    · simp only [List.dropWhile_cons, h, if_pos, List.all_cons, Bool.true_and]
      exact dropWhile_all p l
    · simp [List.dropWhile, h]
theorem trimS_nil (l cs : List UInt8) : Lib.trimS l cs = [] ↔ l.all (cs.contains ·) = true := by
  unfold Lib.trimS Lib.trimLeftS Lib.trimRightS
  rw [dropWhile_nil]
  have : ((l.reverse.dropWhile (cs.contains ·)).reverse).all (cs.contains ·) = (l.reverse.dropWhile (cs.contains ·)).all (cs.contains ·) := List.all_reverse
  rw [this, dropWhile_all, List.all_reverse]
theorem u110 : (Tryz.prog.info? 191).map (fun i => (i.zero, i.size)) = some (some (.agg (Array.replicate 256 (.bool false))), 256) := by kernel_rfl
theorem trim_c (s : ByteArray) (hs : s.size <= 9223372036854775807) (w : World) : Calls Tryz.prog 187 #[.string s, .string ⟨#[65, 66, 67, 68, 69, 70, 71, 72, 73, 74, 75, 76, 77, 78, 79, 80, 81, 82, 83, 84, 85, 86, 87, 88, 89, 90, 48, 49, 50, 51, 52, 53, 54, 55, 56, 57, 95]⟩] w
    fun e w' => e = .returned (.string ⟨(Lib.trimS s.data.toList cset).toArray⟩) /\ Pu w w' :=
  Any.strings_Trim_laid Tryz.lays160 u110 s ⟨#[65, 66, 67, 68, 69, 70, 71, 72, 73, 74, 75, 76, 77, 78, 79, 80, 81, 82, 83, 84, 85, 86, 87, 88, 89, 90, 48, 49, 50, 51, 52, 53, 54, 55, 56, 57, 95]⟩ w hs (by decide) (ascii_of_all (by decide))
theorem at_byte {s : ByteArray} {k : Nat} (h : k < s.size) : ∃ b, s[k]? = some b /\ s.data.toList[k]? = some b := by
  refine ⟨s[k], by simp [h], ?_⟩
  have : k < s.data.toList.length := by simpa using h
  rw [List.getElem?_eq_getElem this]
  rfl
theorem isName_c (s : ByteArray) (hs : s.size <= 140737488355328) (w : World) : Calls Tryz.prog 151 #[.string s] w fun e w' => e = .returned (.bool (nameB s)) /\ Pu w w' := by
  refine F151_calls _ w _ ?_
  have no : ∀ {w2 : World}, Pu w w2 -> nameB s = false -> (Ending.returned (Value.bool false) = Ending.returned (Value.bool (nameB s)) /\ Pu w w2) := fun h1 h2 => ⟨by rw [h2], h1⟩
  rw [F151_1, toList_nil]
  refine Br.of (fun d0 => Br.of (fun d1 => (trim_c s (by omega) w).mono ?_) (fun d1 => no (Pu.refl _) ?_)) (fun d0 => no (Pu.refl _) ?_)
  · rintro e w2 ⟨rfl, hp2⟩
    have d0 : ¬ s.size = 0 := by simpa using d0
    have d1 : s.size <= 10 := by have := dtrue d1; omega
    refine ⟨_, rfl, ?_⟩
    have e2 : ((ByteArray.mk (Lib.trimS s.data.toList cset).toArray).toList == (⟨#[]⟩ : ByteArray).toList) = s.data.toList.all (fun b => capB b || digB b || decide (b.toNat = 95)) := by
      rw [toList_nil]
      have h1 : ((ByteArray.mk (Lib.trimS s.data.toList cset).toArray).size = 0) ↔ s.data.toList.all (cset.contains ·) = true := by
        rw [← trimS_nil]; simp [ByteArray.size]
      rw [show (fun b : UInt8 => capB b || digB b || decide (b.toNat = 95)) = (cset.contains ·) from funext fun b => (cset_eq b).symm]
      rw [Bool.eq_iff_iff, decide_eq_true_iff]; exact h1
    rw [e2]
    have en : nameB s = (s.data.toList.all (fun b => capB b || digB b || decide (b.toNat = 95)) && (s.data.toList.take 1).all capB) := by
      unfold nameB; rw [decide_eq_true (show 1 <= s.size by omega), decide_eq_true d1]; simp only [Bool.true_and]
    obtain ⟨b, hb1, hb2⟩ := at_byte (s := s) (k := 0) (by omega)
    have ht : s.data.toList.take 1 = [b] := by
      cases hl : s.data.toList with
      | nil => rw [hl] at hb2; simp at hb2
      | cons a r => rw [hl] at hb2; simp at hb2; simp [hb2]
    refine Br.of (fun d2 => ⟨b, by omega, hb1, Br.of (fun d3 => ⟨b, by omega, hb1, ?_, hp2⟩) (fun d3 => ?_)⟩) (fun d2 => ?_)
    · have d3 := dtrue d3
      rw [en, d2, ht]
      simp only [List.all_cons, List.all_nil, Bool.and_true, Bool.true_and, capB]
      rw [decide_eq_true (show 65 <= b.toNat by omega)]
      simp only [Bool.true_and]
      congr 3
      exact propext (by omega)
    · have d3 := dfalse d3
      refine no hp2 ?_
      rw [en, d2, ht]
      simp only [List.all_cons, List.all_nil, Bool.and_true, Bool.true_and, capB]
      rw [decide_eq_false (show ¬ 65 <= b.toNat by omega)]; rfl
    · exact no hp2 (by rw [en, d2]; rfl)
  · have := dfalse d1
    unfold nameB; rw [decide_eq_false (show ¬ s.size <= 10 by omega)]; simp
  · have : s.size = 0 := by simpa using d0
    unfold nameB; rw [this]; rfl
theorem isDigit_c (b : UInt8) (w : World) : Calls Tryz.prog 148 #[.int .u8 ((b.toNat : Nat) : Int)] w fun e w' => e = .returned (.bool (digB b)) /\ Pu w w' := by
  refine F148_calls _ w _ (Br.of (fun d => ?_) (fun d => ?_))
  · refine ⟨?_, Pu.refl w⟩
    unfold digB; have := dtrue d; rw [decide_eq_true (show 48 <= b.toNat by omega), Bool.true_and]
    congr 2; simp only [decide_eq_decide]; omega
  · refine ⟨?_, Pu.refl w⟩
    unfold digB; have := dfalse d; rw [decide_eq_false (show ¬ 48 <= b.toNat by omega)]; rfl
theorem all_take {α : Type} (p : α -> Bool) {l : List α} {k : Nat} {x : α} (h : l[k]? = some x) : (l.take (k + 1)).all p = ((l.take k).all p && p x) := by
  rw [take_at h, List.all_append]; simp
theorem rIsName_c (s : ByteArray) (w : World) : Calls Tryz.prog 97 #[.string s] w fun e w' => e = .returned (.bool (nameB s)) /\ Pu w w' := by
  refine F97_calls _ w _ (Br.of (fun d0 => ⟨?_, Pu.refl _⟩) (fun d0 => Br.of (fun d1 => ⟨?_, Pu.refl _⟩) (fun d1 => ?_)))
  · have := dtrue d0
    unfold nameB; rw [decide_eq_false (show ¬ 1 <= s.size by omega)]; rfl
  · have := dtrue d1
    unfold nameB; rw [decide_eq_false (show ¬ s.size <= 10 by omega)]; simp
  have d0 := dfalse d0
  have d1 := dfalse d1
  have en : nameB s = (s.data.toList.all (fun b => capB b || digB b || decide (b.toNat = 95)) && (s.data.toList.take 1).all capB) := by
    unfold nameB; rw [decide_eq_true (show 1 <= s.size by omega), decide_eq_true (show s.size <= 10 by omega)]; simp only [Bool.true_and]
  refine loopUp s.size (fun k t w' => t = (k : Int) /\ Pu w w' /\ (s.data.toList.take k).all (fun b => capB b || digB b || decide (b.toNat = 95)) = true /\ ((s.data.toList.take k).take 1).all capB = true) ⟨rfl, Pu.refl _, rfl, rfl⟩ ?_
  rintro k J t w2 hk ⟨ht, hp2, ha, hf⟩ hJ
  obtain rfl : t = (k : Int) := ht
  refine Br.of (fun d2 => ?_) (fun d2 => ?_)
  · have hks : k < s.size := by have := dtrue d2; omega
    obtain ⟨b, hb1, hb2⟩ := at_byte hks
    have hu := b.toNat_lt
    have go : ∀ {w3 : World}, Pu w2 w3 -> (capB b || digB b || decide (b.toNat = 95)) = true -> (k = 0 -> capB b = true) -> F97_2 (fun e w' => e = .returned (.bool (nameB s)) /\ Pu w w') J s (k : Int) [] w3 := fun {w3} hp3 h1 h2 => by
      show J (IntKind.i64.wrap ((k : Int) + 1)) w3
      rw [wrap_in (by omega) (by omega)]
      refine hJ _ _ hks ⟨by omega, hp2.trans hp3, ?_, ?_⟩
      · rw [all_take _ hb2, ha, h1]; rfl
      · by_cases h0 : k = 0
        · subst h0; rw [take_at hb2]; simp [h2 rfl]
        · have : ((s.data.toList.take (k + 1)).take 1) = (s.data.toList.take k).take 1 := by rw [List.take_take, List.take_take]; congr 1; omega
          rw [this]; exact hf
    have no : ∀ {w3 : World}, Pu w2 w3 -> ((capB b || digB b || decide (b.toNat = 95)) = false ∨ (k = 0 /\ capB b = false)) -> (Ending.returned (Value.bool false) = Ending.returned (Value.bool (nameB s)) /\ Pu w w3) := fun {w3} hp3 h => by
      refine ⟨?_, hp2.trans hp3⟩
      have hm : b ∈ s.data.toList := List.mem_of_getElem? hb2
      rcases h with h | ⟨h0, h⟩
      · have : s.data.toList.all (fun b => capB b || digB b || decide (b.toNat = 95)) = false := by
          rw [List.all_eq_false]; exact ⟨b, hm, by rw [h]; simp⟩
        rw [en, this]; rfl
      · subst h0
        have : (s.data.toList.take 1).all capB = false := by rw [take_at hb2]; simp [h]
        rw [en, this]; simp
    refine ⟨b, by omega, by rw [Int.toNat_natCast]; exact hb1, ?_⟩
    have tail : capB b = false -> Br ((k : Int) == 0) (Ending.returned (Value.bool false) = Ending.returned (Value.bool (nameB s)) /\ Pu w w2) (Br (((b.toNat : Nat) : Int) != 95) (Calls Tryz.prog 148 #[.int .u8 ((b.toNat : Nat) : Int)] w2 fun e w3 => ∃ b39 : Bool, e = .returned (.bool b39) /\ Br (!b39) (Ending.returned (Value.bool false) = Ending.returned (Value.bool (nameB s)) /\ Pu w w3) (F97_2 (fun e w' => e = .returned (.bool (nameB s)) /\ Pu w w') J s (k : Int) [] w3)) (F97_2 (fun e w' => e = .returned (.bool (nameB s)) /\ Pu w w') J s (k : Int) [] w2)) := fun hc => by
      refine Br.of (fun d3 => no (Pu.refl _) (.inr ⟨by have := btrue d3; omega, hc⟩)) (fun d3 => Br.of (fun d4 => (isDigit_c b w2).mono ?_) (fun d4 => go (Pu.refl _) ?_ (fun h => absurd (by omega) (bfalse d3))))
      · rintro e w3 ⟨rfl, hp3⟩
        refine ⟨_, rfl, Br.of (fun d5 => no hp3 (.inl ?_)) (fun d5 => go hp3 ?_ (fun h => absurd (by omega) (bfalse d3)))⟩
        · have d5 : digB b = false := by simpa using d5
          have d4 := bntrue d4
          rw [hc, d5, decide_eq_false (by omega)]; rfl
        · have d5 : digB b = true := by simpa using d5
          rw [d5]; simp
      · have := bnfalse d4
        rw [decide_eq_true (show b.toNat = 95 by omega)]; simp
    refine Br.of (fun d3 => Br.of (fun d4 => ?_) (fun d4 => go (Pu.refl _) ?_ (fun _ => ?_))) (fun d3 => ?_)
    · refine tail ?_
      have d4 : ¬ ((b.toNat : Nat) : Int) <= 90 := by simpa using d4
      unfold capB; rw [decide_eq_false (show ¬ b.toNat <= 90 by omega)]; simp
    · have d3 := dtrue d3
      have d4 : ((b.toNat : Nat) : Int) <= 90 := by simpa using d4
      unfold capB; rw [decide_eq_true (show b.toNat <= 90 by omega), decide_eq_true (show 65 <= b.toNat by omega)]; rfl
    · have d3 := dtrue d3
      have d4 : ((b.toNat : Nat) : Int) <= 90 := by simpa using d4
      unfold capB; rw [decide_eq_true (show b.toNat <= 90 by omega), decide_eq_true (show 65 <= b.toNat by omega)]; rfl
    · refine tail ?_
      have d3 := dfalse d3
      unfold capB; rw [decide_eq_false (show ¬ 65 <= b.toNat by omega)]; simp
  · have hk2 : k = s.size := by have := dfalse d2; omega
    refine ⟨?_, hp2⟩
    rw [hk2, show s.size = s.data.toList.length by simp, List.take_length] at ha hf
    rw [en, ha, hf]; rfl
end Go.Proofs.YtcihcbfcgjepfaaGreatDoor

/- Table: fields and pages: which are right; empty values. No condition. -/
set_option maxRecDepth 100000
set_option linter.unusedVariables false
set_option linter.unusedSimpArgs false
namespace Go.Proofs.YtcihcbfcgjepfaaGreatDoor
open Go.Sh Go.RowKit
theorem dec_eq {p q : Prop} [Decidable p] [Decidable q] (h : p ↔ q) : decide p = decide q := by simp [h]
abbrev fldA (f : Fld) : Value := .agg #[.string f.name, .int .i64 f.kind, .int .i64 f.width, .bool f.null]
abbrev valA (v : Val) : Value := .agg #[.int .i64 v.kind, .int .i64 v.n, .string v.s]
theorem isPage_c (n : Int) (w : World) : Calls Tryz.prog 92 #[.int .i64 n] w fun e w' => e = .returned (.bool (pageB n)) /\ Pu w w' := by
  refine F92_calls _ w _ (Br.of (fun d => ?_) (fun d => ?_))
  · exact ⟨by rw [pageB, decide_eq_true (show 0 <= n from dtrue d)]; rfl, Pu.refl w⟩
  · exact ⟨by rw [pageB, decide_eq_false (show ¬ 0 <= n from dfalse d)]; rfl, Pu.refl w⟩
theorem rIsPage_c (n : Int) (w : World) : Calls Tryz.prog 41 #[.int .i64 n] w fun e w' => e = .returned (.bool (pageB n)) /\ Pu w w' := by
  refine F41_calls _ w _ (Br.of (fun d => ?_) (fun d => ?_))
  · exact ⟨by rw [pageB, decide_eq_true (show 0 <= n from dtrue d)]; rfl, Pu.refl w⟩
  · exact ⟨by rw [pageB, decide_eq_false (show ¬ 0 <= n from dfalse d)]; rfl, Pu.refl w⟩
theorem oneC_kind (k : Int) : ∃ n a b x y, (kindOf5 k).elim (.agg #[.int .u8 0, .int .i64 0, .int .i64 0, .nilFunc, .nilFunc]) kindV = .agg #[.int .u8 n, .int .i64 a, .int .i64 b, x, y] /\ oneC x = true /\ oneC y = true /\
    (kindOf5 k).isSome = decide (k = 1 ∨ k = 2 ∨ k = 3 ∨ k = 4 ∨ k = 5) /\ ((kindOf5 k).isSome = true -> ∀ m : Int, kindW k m = (decide (a <= m) && decide (m <= b))) := by
  rcases kindOf5_cases k with ⟨rfl, h⟩ | ⟨rfl, h⟩ | ⟨rfl, h⟩ | ⟨rfl, h⟩ | ⟨rfl, h⟩ | ⟨h1, h2, h3, h4, h5, h⟩
  · rw [h]; refine ⟨_, _, _, _, _, rfl, rfl, rfl, rfl, fun _ m => ?_⟩
    show decide (m = 1) = (decide (1 <= m) && decide (m <= 1))
    rw [← Bool.decide_and]; exact dec_eq (by omega)
  · rw [h]; exact ⟨_, _, _, _, _, rfl, rfl, rfl, rfl, fun _ m => rfl⟩
  · rw [h]; refine ⟨_, _, _, _, _, rfl, rfl, rfl, rfl, fun _ m => ?_⟩
    show decide (m = 8) = (decide (8 <= m) && decide (m <= 8))
    rw [← Bool.decide_and]; exact dec_eq (by omega)
  · rw [h]; exact ⟨_, _, _, _, _, rfl, rfl, rfl, rfl, fun _ m => rfl⟩
  · rw [h]; refine ⟨_, _, _, _, _, rfl, rfl, rfl, rfl, fun _ m => ?_⟩
    show decide (m = 8) = (decide (8 <= m) && decide (m <= 8))
    rw [← Bool.decide_and]; exact dec_eq (by omega)
  · rw [h]; exact ⟨_, _, _, _, _, rfl, rfl, rfl, by simp [h1, h2, h3, h4, h5], fun hn => by simp at hn⟩
theorem kindW_none {k : Int} (h : (kindOf5 k).isSome = false) (m : Int) : kindW k m = false := by
  rcases kindOf5_cases k with ⟨rfl, h1⟩ | ⟨rfl, h1⟩ | ⟨rfl, h1⟩ | ⟨rfl, h1⟩ | ⟨rfl, h1⟩ | ⟨h1, h2, h3, h4, h5, _⟩
  · rw [h1] at h; simp at h
  · rw [h1] at h; simp at h
  · rw [h1] at h; simp at h
  · rw [h1] at h; simp at h
  · rw [h1] at h; simp at h
  · unfold kindW; rw [if_neg h1, if_neg h2, if_neg h3, if_neg h4, if_neg h5]
theorem ones5 {n a b : Int} {x y : Value} (hx : oneC x = true) (hy : oneC y = true) : (#[.int .u8 n, .int .i64 a, .int .i64 b, x, y] : Array Value).toList.all oneC = true := by
  show ([.int .u8 n, .int .i64 a, .int .i64 b, x, y] : List Value).all oneC = true
  simp only [List.all_cons, List.all_nil, hx, hy]; rfl
theorem s102 : sizeB Tryz.prog 184 = 5 := by kernel_rfl
theorem s25 : sizeB Tryz.prog 28 = 3 := by kernel_rfl
theorem s23 : sizeB Tryz.prog 38 = 4 := by kernel_rfl
theorem isField_c (f : Fld) (hs : f.name.size <= 140737488355328) (w : World) : Calls Tryz.prog 106 #[fldA f] w fun e w' => e = .returned (.bool (fieldB f)) /\ Pu w w' := by
  refine F106_calls _ _ _ _ w _ ?_
  refine alB fun w1 hp1 hb1 => dwE_intro fun w2 hp2 hh2 => ?_
  have hp12 := hp1.trans hp2
  refine ⟨fun w' => Pu w2 w', Pu.refl _, f.kind, fun w' hw' => hw'.cell (hp2.cell (cl hb1 1)), ?_⟩
  obtain ⟨n, a, b, x, y, hk, hx, hy, hsome, hkw⟩ := oneC_kind f.kind
  have main : ∀ {w3 w4 : World} {r : Nat}, Pu w1 w3 -> w3.heap[r]? = some (.cells #[.int .u8 n, .int .i64 a, .int .i64 b, x, y] 184) -> Pu w w3 ->
      F106_1 (fun e w' => e = .returned (.bool (fieldB f)) /\ Pu w w') (some (⟨w.heap.size, 0, none⟩ : Addr)) (some (⟨r, 0, none⟩ : Addr)) (kindOf5 f.kind).isSome [] w3 := fun {w3 w4 r} q1 q2 q3 => by
    have no : ∀ {w5 : World}, Pu w w5 -> fieldB f = false -> (Ending.returned (Value.bool false) = Ending.returned (Value.bool (fieldB f)) /\ Pu w w5) := fun h1 h2 => ⟨by rw [h2], h1⟩
    have hb3 := q1.blk hb1
    refine Br.of (fun d => ⟨f.name, cl0 hb3, (isName_c f.name hs w3).mono ?_⟩) (fun d => no q3 ?_)
    · rintro e w5 ⟨rfl, hp5⟩
      have hb5 := hp5.blk hb3
      have hr5 := hp5.blk q2
      refine ⟨_, rfl, Br.of (fun d1 => ⟨_, cl hb5 2, _, cl hr5 1, Br.of (fun d2 => ⟨_, cl hb5 2, _, cl hr5 2, ?_, q3.trans hp5⟩) (fun d2 => no (q3.trans hp5) ?_)⟩) (fun d1 => no (q3.trans hp5) ?_)⟩
      · unfold fieldB; rw [d1, hkw d, decide_eq_true (show a <= f.width from dtrue d2)]; rfl
      · unfold fieldB; rw [d1, hkw d, decide_eq_false (show ¬ a <= f.width from dfalse d2)]; rfl
      · unfold fieldB; rw [d1]; rfl
    · unfold fieldB; rw [kindW_none d]; simp
  have hlook : ∀ {m : Nat} {w' : World}, MapAt w' intV kindV m kindsL -> (Instr.lookup 186 (.map (some m)) (.int .i64 f.kind) true).run Tryz.prog w' = .ok (.tuple #[.agg #[.int .u8 n, .int .i64 a, .int .i64 b, x, y], .bool (kindOf5 f.kind).isSome]) w' := fun {m w'} hm => by
    rw [kind_look hm, hk]; rfl
  constructor
  · refine (kinds_c w2).mono ?_
    rintro e w3 ⟨m, rfl, hm, _, hp3⟩
    refine ⟨some m, rfl, fun w' => Pu w3 w', Pu.refl _, fun u hu => hp3.trans hu, n, a, b, x, y, (kindOf5 f.kind).isSome, fun w' hw' => hlook (hm.pu hw'), ?_⟩
    refine alB fun w4 hp4 hb4 => ⟨fun w' => Pu w3 w', hp4, fun u hu => hu, ?_⟩
    refine stA_fill hb4 s102.symm rfl (ones5 hx hy) fun w5 hb5 hf5 hs5 => ?_
    have hp35 : Pu w3 w5 := hp4.andNew hf5 fun i hi => by omega
    exact main (w4 := w4) ((hp2.trans hp3).trans hp35) hb5 (hp12.trans (hp3.trans hp35))
  · refine alB fun w4 hp4 hb4 => ⟨fun w' => Pu w4 w', Pu.refl _, fun u hu => hp4.trans hu, ?_⟩
    refine (kinds_c w4).mono ?_
    rintro e w3 ⟨m, rfl, hm, _, hp3⟩
    refine ⟨some m, rfl, fun w' => Pu w3 w', Pu.refl _, fun u hu => hp3.trans hu, n, a, b, x, y, (kindOf5 f.kind).isSome, fun w' hw' => hlook (hm.pu hw'), ?_⟩
    refine stA_fill (hp3.blk hb4) s102.symm rfl (ones5 hx hy) fun w5 hb5 hf5 hs5 => ?_
    have hp25 : Pu w2 w5 := (hp4.trans hp3).andNew hf5 fun i hi => by omega
    exact main (w4 := w4) (hp2.trans hp25) hb5 (hp12.trans hp25)
theorem rIsField_c (f : Fld) (w : World) : Calls Tryz.prog 44 #[fldA f] w fun e w' => e = .returned (.bool (fieldB f)) /\ Pu w w' := by
  refine F44_calls _ _ _ _ w _ ?_
  refine alB fun w1 hp1 hb1 => ⟨_, cl0 hb1, (rIsName_c f.name w1).mono ?_⟩
  rintro e w2 ⟨rfl, hp2⟩
  have hb2 := hp2.blk hb1
  have q2 := hp1.trans hp2
  have out : ∀ {b : Bool}, b = fieldB f -> (Ending.returned (Value.bool b) = Ending.returned (Value.bool (fieldB f)) /\ Pu w w2) := fun h => ⟨by rw [h], q2⟩
  have two : ∀ {lo hi : Int}, (nameB f.name = true -> kindW f.kind f.width = (decide (lo <= f.width) && decide (f.width <= hi))) -> nameB f.name = true ->
      Br (decide (f.width ≥ lo)) (∃ n : Int, w2.cell? ((⟨w.heap.size, 0, none⟩ : Addr).add 2) = some (.int .i64 n) /\ (Ending.returned (Value.bool (decide (n <= hi))) = Ending.returned (Value.bool (fieldB f)) /\ Pu w w2)) (Ending.returned (Value.bool false) = Ending.returned (Value.bool (fieldB f)) /\ Pu w w2) := fun {lo hi} h h0 =>
    Br.of (fun d => ⟨_, cl hb2 2, out (by unfold fieldB; rw [h0, h h0, decide_eq_true (show lo <= f.width from dtrue d)]; rfl)⟩) (fun d => out (by unfold fieldB; rw [h0, h h0, decide_eq_false (show ¬ lo <= f.width from dfalse d)]; rfl))
  refine ⟨_, rfl, Br.of (fun d => out ?_) (fun d => ?_)⟩
  · have : nameB f.name = false := by simpa using d
    unfold fieldB; rw [this]; rfl
  have hn : nameB f.name = true := by simpa using d
  have ef : fieldB f = kindW f.kind f.width := by unfold fieldB; rw [hn]; rfl
  refine ⟨_, cl hb2 1, Br.of (fun d1 => ⟨_, cl hb2 2, out ?_⟩) (fun d1 => Br.of (fun d2 => ⟨_, cl hb2 2, two ?_ hn⟩) (fun d2 => Br.of (fun d3 => Br.of (fun d4 => ⟨_, cl hb2 2, out ?_⟩) (fun d4 => ?_)) (fun d3 => Br.of (fun d4 => ⟨_, cl hb2 2, out ?_⟩) (fun d4 => Br.of (fun d5 => ⟨_, cl hb2 2, two ?_ hn⟩) (fun d5 => out ?_)))))⟩
  · rw [ef, btrue d1]; show (f.width == 1) = decide (f.width = 1); simp [BEq.beq]
  · intro _; rw [btrue d2]; rfl
  · rw [ef, btrue d3]; show (f.width == 8) = decide (f.width = 8); simp [BEq.beq]
  · exact absurd (btrue d3) (bfalse d4)
  · rw [ef, btrue d4]; show (f.width == 8) = decide (f.width = 8); simp [BEq.beq]
  · intro _; rw [btrue d5]; rfl
  · rw [ef]; unfold kindW; rw [if_neg (bfalse d1), if_neg (bfalse d2), if_neg (bfalse d3), if_neg (bfalse d5), if_neg (bfalse d4)]
theorem empty_c (f : Fld) (w : World) : Calls Tryz.prog 108 #[fldA f] w fun e w' => e = .returned (valA (emptyV f)) /\ Pu w w' := by
  refine F108_calls _ _ _ _ w _ ?_
  refine alB fun w1 hp1 hb1 => alB fun w2 hp2 hb2 => ⟨_, cl (hp2.blk hb1) 1, Br.of (fun d => ?_) (fun d => ⟨_, cl (hp2.blk hb1) 1, ?_⟩)⟩
  · refine stA_fill hb2 s25.symm rfl rfl fun w3 hb3 hf3 hs3 => ?_
    have hp13 : Pu w w3 := hp1.trans (hp2.andNew hf3 fun i hi => by omega)
    exact ⟨_, cl hb3 0, _, cl hb3 1, _, cl hb3 2, by unfold emptyV; rw [if_pos (btrue d)], hp13⟩
  · refine stA_fill hb2 s25.symm rfl rfl fun w3 hb3 hf3 hs3 => ?_
    have hp13 : Pu w w3 := hp1.trans (hp2.andNew hf3 fun i hi => by omega)
    exact ⟨_, cl hb3 0, _, cl hb3 1, _, cl hb3 2, by unfold emptyV; rw [if_neg (bfalse d)], hp13⟩
theorem rText_c (s : ByteArray) (w : World) : Calls Tryz.prog 101 #[.string s] w fun e w' => e = .returned (valA ⟨4, 0, s⟩) /\ Pu w w' := by
  refine F101_calls _ w _ ?_
  refine alB fun w2 hp2 hb2 => ?_
  refine stA_fill hb2 s25.symm rfl rfl fun w3 hb3 hf3 hs3 => ?_
  exact ⟨_, cl hb3 0, _, cl hb3 1, _, cl hb3 2, rfl, hp2.andNew hf3 fun i hi => by omega⟩
end Go.Proofs.YtcihcbfcgjepfaaGreatDoor

/- Table: numbers in digits; blanks at a text's end. No condition. -/
set_option maxRecDepth 100000
set_option linter.unusedVariables false
set_option linter.unusedSimpArgs false
namespace Go.Proofs.YtcihcbfcgjepfaaGreatDoor
open Go.Sh Go.RowKit
theorem bs_append (a b : List UInt8) : bs a ++ bs b = bs (a ++ b) := bytes_ext (by simp [bs])
theorem extract_list (s : ByteArray) (i j : Nat) : (s.extract i j).data.toList = (s.data.toList.take j).drop i := by
  rw [ByteArray.data_extract, Array.toList_extract, List.extract_eq_take_drop, List.drop_take]
theorem digit_at : ∀ k : Nat, k < 10 -> (⟨#[48, 49, 50, 51, 52, 53, 54, 55, 56, 57]⟩ : ByteArray).extract k (k + 1) = bs [UInt8.ofNat (48 + k)] := by
  intro k hk
  apply bytes_ext
  rw [extract_list, bs_list]
  match k, hk with
  | 0, _ => rfl
  | 1, _ => rfl
  | 2, _ => rfl
  | 3, _ => rfl
  | 4, _ => rfl
  | 5, _ => rfl
  | 6, _ => rfl
  | 7, _ => rfl
  | 8, _ => rfl
  | 9, _ => rfl
theorem decN_lt {n : Nat} (h : n < 10) : decN n = [UInt8.ofNat (48 + n)] := by rw [decN, dif_pos h]
theorem decN_ge {n : Nat} (h : ¬ n < 10) : decN n = decN (n / 10) ++ [UInt8.ofNat (48 + n % 10)] := by rw [decN, dif_neg h]
theorem decN_len (n : Nat) : (decN n).length <= n + 1 := by
  induction n using Nat.strongRecOn with
  | _ n ih =>
    by_cases h : n < 10
    · rw [decN_lt h]; simp
    · rw [decN_ge h]
      have := ih (n / 10) (by omega)
      simp only [List.length_append, List.length_singleton]; omega
theorem decN_pos (n : Nat) : 1 <= (decN n).length := by
  by_cases h : n < 10
  · rw [decN_lt h]; simp
  · rw [decN_ge h]; simp
theorem decN_digit (n : Nat) : ∀ b ∈ decN n, 48 <= b.toNat /\ b.toNat <= 57 := by
  induction n using Nat.strongRecOn with
  | _ n ih =>
    have one : ∀ k, k < 10 -> 48 <= (UInt8.ofNat (48 + k)).toNat /\ (UInt8.ofNat (48 + k)).toNat <= 57 := fun k hk => by simp; omega
    by_cases h : n < 10
    · rw [decN_lt h]; intro b hb; simp only [List.mem_singleton] at hb; subst hb; exact one n h
    · rw [decN_ge h]; intro b hb
      rcases List.mem_append.1 hb with hb | hb
      · exact ih (n / 10) (by omega) b hb
      · simp only [List.mem_singleton] at hb; subst hb; exact one _ (by omega)
theorem decNat_c : ∀ (n : Nat), n <= 4611686018427387904 -> ∀ w : World, Calls Tryz.prog 159 #[.int .i64 (n : Int)] w fun e w' => e = .returned (.string (bs (decN n))) /\ Pu w w' := by
  intro n
  induction n using Nat.strongRecOn with
  | _ n ih =>
    intro hn w
    refine F159_calls _ w _ (Br.of (fun d => absurd (dtrue d) (by omega)) (fun d => Br.of (fun d1 => ?_) (fun d1 => dwE_intro fun w4 hp4 _ => ?_)))
    · have d1 : n < 10 := by have := dtrue d1; omega
      rw [wrap_in (by omega) (by omega)]
      refine ⟨by omega, ?_, by omega, by omega, ?_, Pu.refl w⟩
      · show _ <= 10; omega
      · rw [Int.toNat_natCast, show ((n : Int) + 1).toNat = n + 1 by omega, digit_at n d1, decN_lt d1]
    · have d1 : ¬ n < 10 := by have := dfalse d1; omega
      have e1 : ((n : Int).tmod 10) = ((n % 10 : Nat) : Int) := by rw [Int.tmod_eq_emod_of_nonneg (by omega)]; omega
      have e2 : ((n : Int).tdiv 10) = ((n / 10 : Nat) : Int) := by rw [Int.tdiv_eq_ediv_of_nonneg (by omega)]; omega
      rw [e1, e2, wrap_in (by omega) (by omega), wrap_in (by omega) (by omega)]
      have e3 : (((n % 10 : Nat) : Int) + 1).toNat = n % 10 + 1 := by omega
      rw [e3, Int.toNat_natCast, digit_at (n % 10) (by omega)]
      refine ⟨rfl, by omega, rfl, by omega, rfl, by omega, by omega, ?_, by omega, by omega, (ih (n / 10) (by omega) (by omega) w4).mono ?_⟩
      · show _ <= 10; omega
      rintro e w5 ⟨rfl, hp5⟩
      refine ⟨_, rfl, ?_, ?_, hp4.trans hp5⟩
      · rw [bs_size, bs_size]; have := decN_len (n / 10); simp only [List.length_singleton]; omega
      · rw [bs_append, decN_ge d1]
theorem decI_nat (n : Nat) : decI (n : Int) = decN n := by unfold decI; rw [if_neg (by omega)]; rfl
theorem decI_neg {n : Int} (h : n < 0) : decI n = 45 :: decN n.natAbs := by unfold decI; rw [if_pos h]
theorem dec_c {n : Int} (h1 : -4611686018427387904 <= n) (h2 : n <= 4611686018427387904) (w : World) : Calls Tryz.prog 159 #[.int .i64 n] w fun e w' => e = .returned (.string (bs (decI n))) /\ Pu w w' := by
  by_cases h : n < 0
  · refine F159_calls _ w _ (Br.of (fun d => ?_) (fun d => absurd h (dfalse d)))
    rw [wrap_in (by omega) (by omega)]
    have e : (0 - n : Int) = ((n.natAbs : Nat) : Int) := by omega
    rw [e]
    refine (decNat_c n.natAbs (by omega) w).mono ?_
    rintro e w2 ⟨rfl, hp⟩
    refine ⟨_, rfl, ?_, ?_, hp⟩
    · have e4 := bs_size (decN n.natAbs); have := decN_len n.natAbs; show (((1 + (bs (decN n.natAbs)).size : Nat)) : Int) <= _; omega
    · rw [decI_neg h]; exact congrArg (fun x => Ending.returned (Value.string x)) (bs_append [45] _)
  · obtain ⟨k, rfl⟩ : ∃ k : Nat, n = k := ⟨n.toNat, by omega⟩
    rw [decI_nat]
    exact decNat_c k (by omega) w
theorem writtenNat_c : ∀ (n : Nat), n <= 9223372036854775807 -> ∀ w : World, Calls Tryz.prog 147 #[.int .i64 (n : Int)] w fun e w' => e = .returned (.string (bs (decN n))) /\ Pu w w' := by
  intro n
  induction n using Nat.strongRecOn with
  | _ n ih =>
    intro hn w
    refine F147_calls _ w _ (Br.of (fun d => absurd (dtrue d) (by omega)) (fun d => Br.of (fun d1 => ?_) (fun d1 => ?_)))
    · have d1 : n < 10 := by have := dtrue d1; omega
      rw [wrap_in (by omega) (by omega)]
      refine ⟨by omega, ?_, by omega, by omega, ?_, Pu.refl w⟩
      · show _ <= 10; omega
      · rw [Int.toNat_natCast, show ((n : Int) + 1).toNat = n + 1 by omega, digit_at n d1, decN_lt d1]
    · have d1 : ¬ n < 10 := by have := dfalse d1; omega
      have e1 : ((n : Int).tmod 10) = ((n % 10 : Nat) : Int) := by rw [Int.tmod_eq_emod_of_nonneg (by omega)]; omega
      have e2 : ((n : Int).tdiv 10) = ((n / 10 : Nat) : Int) := by rw [Int.tdiv_eq_ediv_of_nonneg (by omega)]; omega
      rw [e1, e2, wrap_in (by omega) (by omega)]
      refine ⟨rfl, by omega, (ih (n / 10) (by omega) (by omega) w).mono ?_⟩
      rintro e w5 ⟨rfl, hp5⟩
      refine ⟨_, rfl, rfl, by omega, (ih (n % 10) (by omega) (by omega) w5).mono ?_⟩
      rintro e w6 ⟨rfl, hp6⟩
      refine ⟨_, rfl, ?_, ?_, hp5.trans hp6⟩
      · rw [bs_size, bs_size]; have := decN_len (n / 10); have := decN_len (n % 10); omega
      · rw [bs_append, decN_ge d1, decN_lt (show n % 10 < 10 by omega)]
theorem min_dec : decI (-9223372036854775808) = [45, 57, 50, 50, 51, 51, 55, 50, 48, 51, 54, 56, 53, 52, 55, 55, 53, 56, 48, 56] := by decide +kernel
theorem written_c {n : Int} (hn : In64 n) (w : World) : Calls Tryz.prog 147 #[.int .i64 n] w fun e w' => e = .returned (.string (bs (decI n))) /\ Pu w w' := by
  obtain ⟨h1, h2⟩ := hn
  by_cases h : n < 0
  · refine F147_calls _ w _ (Br.of (fun d => Br.of (fun d1 => ?_) (fun d1 => ?_)) (fun d => absurd h (dfalse d)))
    · rw [btrue d1, min_dec]; exact ⟨rfl, Pu.refl w⟩
    have d1 := bfalse d1
    rw [wrap_in (by omega) (by omega)]
    have e : (0 - n : Int) = ((n.natAbs : Nat) : Int) := by omega
    rw [e]
    refine (writtenNat_c n.natAbs (by omega) w).mono ?_
    rintro e w2 ⟨rfl, hp⟩
    have hl : (decN n.natAbs).length < 9223372036854775807 := by
      by_cases h10 : n.natAbs < 10
      · rw [decN_lt h10]; simp
      · rw [decN_ge h10]; have := decN_len (n.natAbs / 10); simp only [List.length_append, List.length_singleton]; omega
    refine ⟨_, rfl, ?_, ?_, hp⟩
    · have e4 := bs_size (decN n.natAbs); show (((1 + (bs (decN n.natAbs)).size : Nat)) : Int) <= _; omega
    · rw [decI_neg h]; exact congrArg (fun x => Ending.returned (Value.string x)) (bs_append [45] _)
  · obtain ⟨k, rfl⟩ : ∃ k : Nat, n = k := ⟨n.toNat, by omega⟩
    rw [decI_nat]
    exact writtenNat_c k (by omega) w
theorem repeatL_one (b : UInt8) : ∀ n, Lib.repeatL [b] n = List.replicate n b
  | 0 => rfl
  | n + 1 => by rw [List.replicate_succ, ← repeatL_one b n]; rfl
theorem repeat_c (b : UInt8) (n : Nat) (hn : n <= 140737488355328) (w : World) : Calls Tryz.prog 160 #[.string ⟨#[b]⟩, .int .i64 (n : Int)] w fun e w' => e = .returned (.string (bs (List.replicate n b))) /\ Pu w w' := by
  have h := Any.strings_Repeat Tryz.lays105 Tryz.Builder_Extra_105 ⟨#[b]⟩ n w (by omega) (by show 1 * n <= _; omega)
  have e : Lib.repeatL (⟨#[b]⟩ : ByteArray).data.toList n = List.replicate n b := repeatL_one b n
  rw [e] at h
  exact h
theorem trimRight_c (s : ByteArray) (hs : s.size <= 140737488355328) (w : World) : Calls Tryz.prog 109 #[.string s, .string ⟨#[32]⟩] w fun e w' => e = .returned (.string (bs (bare s.data.toList))) /\ Pu w w' :=
  (Any.strings_TrimRight_one Tryz.lays162 s 32 (by decide) w (by omega)).mono fun e w' ⟨h1, h2⟩ => ⟨h1, h2 ▸ Pu.refl _⟩
theorem bare_snoc (l : List UInt8) (b : UInt8) : bare (l ++ [b]) = if b = 32 then bare l else l ++ [b] := by
  unfold bare
  rw [List.reverse_append, List.reverse_singleton, List.singleton_append, List.dropWhile_cons]
  by_cases h : b = 32
  · simp [h]
  · simp [h]
theorem rBare_c (s : ByteArray) (hs : s.size <= 9223372036854775807) (w : World) : Calls Tryz.prog 99 #[.string s] w fun e w' => e = .returned (.string (bs (bare s.data.toList))) /\ Pu w w' := by
  refine F99_calls _ w _ ?_
  refine loopUp s.size (fun k t w' => t = ((s.size - k : Nat) : Int) /\ Pu w w' /\ bare s.data.toList = bare (s.data.toList.take (s.size - k))) ⟨rfl, Pu.refl _, by rw [Nat.sub_zero, show s.size = s.data.toList.length by simp, List.take_length]⟩ ?_
  rintro k J t w2 hk ⟨ht, hp, hb⟩ hJ
  obtain rfl : t = ((s.size - k : Nat) : Int) := ht
  have fin : bare (s.data.toList.take (s.size - k)) = s.data.toList.take (s.size - k) -> F99_1 (fun e w' => e = .returned (.string (bs (bare s.data.toList))) /\ Pu w w') s ((s.size - k : Nat) : Int) [] w2 := fun h => by
    refine ⟨by omega, by rw [Int.toNat_natCast]; omega, by omega, ?_, hp⟩
    rw [Int.toNat_natCast, hb, h]
    congr 2
    exact bytes_ext (by rw [extract_list, bs_list]; rfl)
  refine Br.of (fun d => ?_) (fun d => fin ?_)
  · have hk2 : k < s.size := by have := dtrue d; omega
    rw [F99_1] at fin
    have e1 : ((s.size - k : Nat) : Int) - 1 = ((s.size - (k + 1) : Nat) : Int) := by omega
    rw [e1, wrap_in (by omega) (by omega)]
    obtain ⟨b, hb1, hb2⟩ := at_byte (s := s) (k := s.size - (k + 1)) (by omega)
    have et : s.data.toList.take (s.size - k) = s.data.toList.take (s.size - (k + 1)) ++ [b] := by
      rw [show s.size - k = s.size - (k + 1) + 1 by omega, take_at hb2]
    refine ⟨b, by omega, by rw [Int.toNat_natCast]; exact hb1, Br.of (fun d1 => hJ _ _ hk2 ⟨rfl, hp, ?_⟩) (fun d1 => fin ?_)⟩
    · have : b = 32 := by have := btrue d1; apply UInt8.toNat_inj.1; show b.toNat = 32; omega
      rw [hb, et, bare_snoc, if_pos this]
    · have : ¬ b = 32 := fun h => bfalse d1 (by rw [h]; rfl)
      rw [et, bare_snoc, if_neg this]
  · have : s.size - k = 0 := by have := dfalse d; omega
    rw [this]; rfl
end Go.Proofs.YtcihcbfcgjepfaaGreatDoor

/- Table: pages of characters; which texts a page has. No condition. -/
set_option maxRecDepth 100000
set_option linter.unusedVariables false
set_option linter.unusedSimpArgs false
namespace Go.Proofs.YtcihcbfcgjepfaaGreatDoor
open Go.Sh Go.RowKit
def Grid (w : World) (r : Nat) (g : Nat -> Bool) : Prop := ∃ c, w.heap[r]? = some (.cells c 215) /\ c.size = 768 /\ ∀ i, i < 768 -> ∃ n : Int, c[i]? = some (.int .i32 n) /\ decide (n < 0) = g i
theorem Grid.ext {w : World} {r : Nat} {g g' : Nat -> Bool} (h : Grid w r g) (e : ∀ i, i < 768 -> g i = g' i) : Grid w r g' :=
  let ⟨c, h1, h2, h3⟩ := h; ⟨c, h1, h2, fun i hi => let ⟨n, h4, h5⟩ := h3 i hi; ⟨n, h4, h5.trans (e i hi)⟩⟩
theorem Grid.fr {B : Nat -> Prop} {w w' : World} {r : Nat} {g : Nat -> Bool} (h : Grid w r g) (hf : Fr B w w') (hn : ¬ B r) : Grid w' r g :=
  let ⟨c, h1, h2⟩ := h; ⟨c, hf.blk h1 hn, h2⟩
theorem Grid.st {w : World} {r : Nat} {g : Nat -> Bool} (h : Grid w r g) {j : Nat} (hj : j < 768) (n : Int) (a : Addr) (ha : a = ⟨r, j, none⟩) {K : World -> Prop}
    (hK : ∀ w', Grid w' r (fun i => if i = j then decide (n < 0) else g i) -> Fr (· = r) w w' -> K w') : st1 a (.int .i32 n) w K := by
  subst ha
  obtain ⟨c, h1, h2, h3⟩ := h
  refine st1_intro h1 (by omega) fun w' hw' hb' => hK w' ⟨_, hb', by simp [h2], fun i hi => ?_⟩ (by rw [hw']; exact Fr.cell w r j _)
  by_cases e : i = j
  · subst e; exact ⟨n, by simp [h2, hi], by simp⟩
  · obtain ⟨m, h4, h5⟩ := h3 i hi
    exact ⟨m, by rw [Array.getElem?_setIfInBounds_ne (Ne.symm e)]; exact h4, by simp [e, h5]⟩
theorem i32_in {n : Int} (h1 : -2147483648 <= n) (h2 : n <= 2147483647) : IntKind.i32.wrap n = n := Go.IntWalk.i32_in n ⟨h1, h2⟩
theorem zc149 : zc Tryz.prog 215 = Array.replicate 768 (.int .i32 0) := by kernel_rfl
theorem s149 : sizeB Tryz.prog 215 = 768 := by kernel_rfl
def sg1 (k i : Nat) : Bool := decide ((128 <= i /\ i < k) ∨ (640 <= i /\ i < 512 + k))
def sg2 (k i : Nat) : Bool := decide ((128 <= i /\ i < 256) ∨ (512 + k <= i /\ i < 768))
def sg3 (k i : Nat) : Bool := decide ((128 <= i /\ i < 256) ∨ (688 <= i /\ i < 736) ∨ (512 + k <= i /\ i < 768))
theorem ad1 (r : Nat) (p k : Nat) : (((⟨r, 0, none⟩ : Addr).add ((p : Int).toNat * 256)).add ((k : Int).toNat * 1)) = ⟨r, p * 256 + k, none⟩ := by
  rw [add_def, add_def, Int.toNat_natCast, Int.toNat_natCast, Nat.zero_add, Nat.mul_one]
theorem pages_c (w : World) : Calls Tryz.prog 193 #[] w fun e w' => ∃ c : Array Value, e = .returned (.agg c) /\ c.size = 768 /\ (∀ i, i < 768 -> ∃ n : Int, c[i]? = some (.int .i32 n) /\ decide (n < 0) = sg3 240 i) /\ Pu w w' := by
  refine F193_calls w _ ?_
  refine alB fun w1 hp1 hb1 => alB fun w2 hp2 hb2 => ?_
  have hw12 : w.heap.size < w1.heap.size := blk_lt hb1
  have g0 : Grid w2 w1.heap.size (sg1 0) := ⟨_, hb2, by rw [zc149]; simp, fun i hi => ⟨0, by rw [zc149]; simp [hi], by unfold sg1; simp; omega⟩⟩
  -- the end
  have fin : ∀ {w3 : World}, Grid w3 w1.heap.size (sg3 240) -> Fr (· = w1.heap.size) w2 w3 -> F193_1 (fun e w' => ∃ c : Array Value, e = .returned (.agg c) /\ c.size = 768 /\ (∀ i, i < 768 -> ∃ n : Int, c[i]? = some (.int .i32 n) /\ decide (n < 0) = sg3 240 i) /\ Pu w w') (some (⟨w.heap.size, 0, none⟩ : Addr)) (some (⟨w1.heap.size, 0, none⟩ : Addr)) [] w3 := by
    intro w3 ⟨c, h1, h2, h3⟩ hf
    have hb3 := hf.blk (hp2.blk hb1) (show ¬ w.heap.size = w1.heap.size by omega)
    refine ⟨c, h2, fun i hi => cl h1 i, ?_⟩
    have ho : c.toList.all oneC = true := by
      rw [List.all_eq_true]
      intro v hv
      obtain ⟨i, hi, rfl⟩ := List.getElem_of_mem hv
      have hi' : i < c.size := by simpa using hi
      obtain ⟨n, h4, _⟩ := h3 i (by omega)
      rw [Array.getElem?_eq_getElem hi'] at h4
      have h4 := Option.some.inj h4
      rw [Array.getElem_toList, h4]; rfl
    refine stA_fill hb3 (by rw [s149, h2]) (by rw [zc149, h2]; simp) ho fun w4 hb4 hf4 hs4 => ?_
    refine ⟨c, h2, fun i hi => cl hb4 i, c, rfl, h2, h3, ?_⟩
    have hpu : Pu w w3 := (hp1.trans hp2).andNew hf fun i hi => by have hi : i = w1.heap.size := hi; omega
    exact hpu.andNew hf4 fun i hi => by have hi : i = w.heap.size := hi; omega
  refine loopUp 256 (fun k t w' => t = (k : Int) /\ Grid w' w1.heap.size (sg1 k) /\ Fr (· = w1.heap.size) w2 w') ⟨rfl, g0, Fr.refl _ _⟩ ?_
  rintro k J t w3 hk ⟨ht, hg, hf⟩ hJ
  obtain rfl : t = (k : Int) := ht
  refine Br.of (fun d => ?_) (fun d => ?_)
  · have hk2 : k < 256 := by have := dtrue d; omega
    refine ⟨by omega, by omega, by omega, by omega, ?_⟩
    rw [i32_in (by omega) (by omega)]
    refine hg.st (j := 256 + k) (by omega) (k : Int) _ (ad1 _ 1 k) fun w4 hg4 hf4 => ?_
    rw [wrap_in (by omega) (by omega)]
    refine Br.of (fun d1 => ?_) (fun d1 => ?_)
    · have d1 : 128 <= k := by have := dtrue d1; omega
      refine ⟨by omega, by omega, by omega, by omega, hg4.st (j := 0 + k) (by omega) (-1) _ (ad1 _ 0 k) fun w5 hg5 hf5 => ⟨by omega, by omega, by omega, by omega, hg5.st (j := 512 + k) (by omega) (-1) _ (ad1 _ 2 k) fun w6 hg6 hf6 => ?_⟩⟩
      refine hJ _ _ hk2 ⟨by omega, hg6.ext fun i hi => ?_, ((hf.trans hf4 fun _ h _ => h).trans hf5 fun _ h _ => h).trans hf6 fun _ h _ => h⟩
      simp only [sg1]
      repeat' split
      all_goals first | (simp only [decide_eq_decide]; omega) | (rw [eq_comm, decide_eq_true_iff]; omega) | (rw [eq_comm]; simp; omega) | (simp; omega)
    · have d1 : ¬ 128 <= k := by have := dfalse d1; omega
      refine ⟨by omega, by omega, by omega, by omega, hg4.st (j := 0 + k) (by omega) (k : Int) _ (ad1 _ 0 k) fun w5 hg5 hf5 => ⟨by omega, by omega, by omega, by omega, hg5.st (j := 512 + k) (by omega) (k : Int) _ (ad1 _ 2 k) fun w6 hg6 hf6 => ?_⟩⟩
      refine hJ _ _ hk2 ⟨by omega, hg6.ext fun i hi => ?_, ((hf.trans hf4 fun _ h _ => h).trans hf5 fun _ h _ => h).trans hf6 fun _ h _ => h⟩
      simp only [sg1]
      repeat' split
      all_goals first | (simp only [decide_eq_decide]; omega) | (rw [eq_comm, decide_eq_true_iff]; omega) | (rw [eq_comm]; simp; omega) | (simp; omega)
  have hk2 : k = 256 := by have := dfalse d; omega
  subst hk2
  clear hJ J d
  refine loopUp 48 (fun k t w' => t = ((128 + k : Nat) : Int) /\ Grid w' w1.heap.size (sg2 (128 + k)) /\ Fr (· = w1.heap.size) w2 w') ⟨rfl, hg.ext fun i hi => by unfold sg1 sg2; exact dec_eq (by omega), hf⟩ ?_
  rintro k J t w4 hk ⟨ht, hg, hf⟩ hJ
  obtain rfl : t = ((128 + k : Nat) : Int) := ht
  refine Br.of (fun d => ?_) (fun d => ?_)
  · have hk2 : k < 48 := by have := dtrue d; omega
    refine ⟨by omega, by omega, by omega, by omega, ?_⟩
    rw [wrap_in (by omega) (by omega), i32_in (n := ((128 + k : Nat) : Int) - 128) (by omega) (by omega), i32_in (by omega) (by omega), wrap_in (by omega) (by omega)]
    refine hg.st (j := 512 + (128 + k)) (by omega) _ _ (ad1 _ 2 (128 + k)) fun w5 hg5 hf5 => hJ _ _ hk2 ⟨by omega, hg5.ext fun i hi => ?_, hf.trans hf5 fun _ h _ => h⟩
    simp only [sg2]
    split
    · rw [decide_eq_decide]; omega
    · simp only [decide_eq_decide]; omega
  have hk2 : k = 48 := by have := dfalse d; omega
  subst hk2
  clear hJ J d
  refine loopUp 16 (fun k t w' => t = ((224 + k : Nat) : Int) /\ Grid w' w1.heap.size (sg3 (224 + k)) /\ Fr (· = w1.heap.size) w2 w') ⟨rfl, hg.ext fun i hi => by unfold sg3 sg2; exact dec_eq (by omega), hf⟩ ?_
  rintro k J t w5 hk ⟨ht, hg, hf⟩ hJ
  obtain rfl : t = ((224 + k : Nat) : Int) := ht
  refine Br.of (fun d => ?_) (fun d => ?_)
  · have hk2 : k < 16 := by have := dtrue d; omega
    refine ⟨by omega, by omega, by omega, by omega, ?_⟩
    rw [wrap_in (by omega) (by omega), i32_in (n := ((224 + k : Nat) : Int) - 224) (by omega) (by omega), i32_in (by omega) (by omega), wrap_in (by omega) (by omega)]
    refine hg.st (j := 512 + (224 + k)) (by omega) _ _ (ad1 _ 2 (224 + k)) fun w5 hg5 hf5 => hJ _ _ hk2 ⟨by omega, hg5.ext fun i hi => ?_, hf.trans hf5 fun _ h _ => h⟩
    simp only [sg3]
    split
    · rw [decide_eq_decide]; omega
    · simp only [decide_eq_decide]; omega
  have hk2 : k = 16 := by have := dfalse d; omega
  subst hk2
  exact fin hg hf
theorem u149 : Tryz.prog.underlying 215 = some (.array 3 214) := by kernel_rfl
theorem index149 {cs : Array Value} {p : Nat} (hp : p < 3) (w : World) : (Instr.index 215 (.agg cs) (.int .i64 (p : Int))).run Tryz.prog w = .ok (.agg (cs.extract (p * 256) (p * 256 + 256))) w := by
  have h1 : (part 214 cs (p * 256)).run Tryz.prog w = .ok (.agg (cs.extract (p * 256) (p * 256 + 256))) w := by
    unfold part
    have a : (isAgg 214).run Tryz.prog w = .ok true w := Tryz.isAgg214 w
    have s : (sizeOf 214).run Tryz.prog w = .ok 256 w := Tryz.sizeOf214 w
    simp only [Sem.run_bind, a, Result.andThen_ok, if_true, s, Sem.run_pure]
  have s : (sizeOf 214).run Tryz.prog w = .ok 256 w := Tryz.sizeOf214 w
  unfold Instr.index
  simp only [asIntOf, Sem.run_bind, Sem.run_pure, Result.andThen_ok, run_under u149]
  have h0 : (0 : Int) <= (p : Int) /\ (p : Int) < ((3 : Nat) : Int) := by omega
  rw [if_pos h0]
  simp only [Sem.run_bind, s, Result.andThen_ok, Int.toNat_natCast, h1]
theorem asked_c {w : World} {r : Nat} {s : ByteArray} (p : Int) (hb : w.heap[r]? = some (.cells #[.string s] 9)) : Calls Tryz.prog 192 #[.int .i64 p, .slice (some ⟨r, 0, none⟩) 1 1] w fun e w' => e = .returned (.int .i64 (if 2048 < s.size then 3 else if pageB p then 0 else 1)) /\ Pu w w' := by
  refine F192_calls _ ⟨some ⟨r, 0, none⟩, 1, 1⟩ w _ ?_
  refine loopUp 1 (fun k t w' => t = (k : Int) /\ w' = w /\ (0 < k -> ¬ 2048 < s.size)) ⟨rfl, rfl, fun h => by omega⟩ ?_
  rintro k J t w2 hk ⟨ht, hw, hs⟩ hJ
  obtain rfl : t = (k : Int) := ht
  obtain rfl : w2 = w := hw
  refine Br.of (fun d => ?_) (fun d => ?_)
  · have hk0 : k = 0 := by have := dtrue d; dsimp only at this; omega
    subst hk0
    refine ⟨_, rfl, by omega, by dsimp only; omega, s, cl hb 0, Br.of (fun d1 => ?_) (fun d1 => ?_)⟩
    · exact ⟨by rw [if_pos (show 2048 < s.size by have := dtrue d1; omega)], Pu.refl _⟩
    · rw [wrap_in (by omega) (by omega)]
      exact hJ _ _ (by omega) ⟨rfl, rfl, fun _ => by have := dfalse d1; omega⟩
  · have hk1 : k = 1 := by have := dfalse d; dsimp only at this; omega
    subst hk1
    rw [if_neg (hs (by omega))]
    refine Br.of (fun d1 => ?_) (fun d1 => Br.of (fun d2 => ?_) (fun d2 => ?_))
    · have := dtrue d1; exact ⟨by rw [if_neg]; simp [pageB]; omega, Pu.refl _⟩
    · have := dtrue d2; exact ⟨by rw [if_neg]; simp [pageB]; omega, Pu.refl _⟩
    · have := dfalse d1; have := dfalse d2; exact ⟨by rw [if_pos]; simp [pageB]; omega, Pu.refl _⟩
theorem on_sg {b : UInt8} {p : Nat} (hp : p < 3) : sg3 240 (p * 256 + b.toNat) = !onB b (p : Int) := by
  have := b.toNat_lt
  unfold sg3 onB
  rcases (by omega : p = 0 ∨ p = 1 ∨ p = 2) with rfl | rfl | rfl
  · rw [if_pos (by rfl), ← decide_not]; exact dec_eq (by omega)
  · rw [if_neg (by omega), if_pos (by rfl)]; simp; omega
  · rw [if_neg (by omega), if_neg (by omega), ← Bool.decide_and, ← Bool.decide_or, ← decide_not]; exact dec_eq (by omega)
theorem u9 : Tryz.prog.underlying 9 = some .string := by kernel_rfl
theorem u37 : Tryz.prog.underlying 217 = some (.slice 5) := by kernel_rfl
theorem u5 : Tryz.prog.underlying 5 = some (.int .u8) := by kernel_rfl
theorem s148 : sizeB Tryz.prog 214 = 256 := by kernel_rfl
theorem zc148' : zc Tryz.prog 214 = Array.replicate 256 (.int .i32 0) := by kernel_rfl
theorem zc148 : (zc Tryz.prog 214).size = 256 := by rw [zc148']; simp
theorem textValid_c (s : ByteArray) (hs : s.size <= 140737488355328) (p : Int) (w : World) : Calls Tryz.prog 157 #[.string s, .int .i64 p] w fun e w' =>
    e = .returned (.tuple #[.bool (decide (s.size <= 2048) && pageB p && textB s.data.toList p), .int .i64 (if 2048 < s.size then 3 else if pageB p then 0 else 1)]) /\ Pu w w' := by
  refine F157_calls _ _ w _ ?_
  refine alB fun w1 hp1 hb1 => (asked_c p hb1).mono ?_
  rintro e w2 ⟨rfl, hp2⟩
  refine ⟨_, rfl, Br.of (fun d => ?_) (fun d => ?_)⟩
  · have d := bntrue d
    refine ⟨?_, hp1.trans hp2⟩
    have : (decide (s.size <= 2048) && pageB p) = false := by
      by_cases h : 2048 < s.size
      · rw [decide_eq_false (by omega)]; rfl
      · cases h2 : pageB p
        · simp
        · rw [if_neg h, h2] at d; exact absurd rfl d
    rw [this]; rfl
  have d := bnfalse d
  have hs2 : ¬ 2048 < s.size := fun h => by rw [if_pos h] at d; omega
  have hpg : pageB p = true := by
    cases h2 : pageB p
    · rw [if_neg hs2, h2] at d; simp at d
    · rfl
  obtain ⟨q, rfl, hq⟩ : ∃ q : Nat, p = q /\ q < 3 := ⟨p.toNat, by simp [pageB] at hpg; omega, by simp [pageB] at hpg; omega⟩
  refine (pages_c w2).mono ?_
  rintro e w3 ⟨c, rfl, hc, hn, hp3⟩
  refine ⟨c, hc, rfl, c.extract (q * 256) (q * 256 + 256), by simp [hc]; omega, w3, index149 hq w3, ?_⟩
  have hat : ∀ i, i < 256 -> ∃ n : Int, (c.extract (q * 256) (q * 256 + 256))[i]? = some (.int .i32 n) /\ decide (n < 0) = sg3 240 (q * 256 + i) := fun i hi => by
    obtain ⟨n, h1, h2⟩ := hn (q * 256 + i) (by omega)
    refine ⟨n, ?_, h2⟩
    rw [Array.getElem?_extract, if_pos (by omega)]
    exact h1
  refine alB fun w4 hp4 hb4 => stA_fill hb4 (by rw [s148]; simp [hc]; omega) (by rw [zc148]; simp [hc]; omega) ?_ fun w5 hb5 hf5 hs5 => ?_
  · rw [List.all_eq_true]
    intro v hv
    obtain ⟨i, hi, rfl⟩ := List.getElem_of_mem hv
    have hi' : i < (c.extract (q * 256) (q * 256 + 256)).size := by rw [← Array.length_toList]; exact hi
    obtain ⟨n, h4, _⟩ := hat i (by rw [Array.size_extract] at hi'; omega)
    rw [Array.getElem?_eq_getElem hi'] at h4
    have h4 := Option.some.inj h4
    rw [Array.getElem_toList, h4]; rfl
  have hp35 : Pu w3 w5 := hp4.andNew hf5 fun i hi => by have hi : i = w3.heap.size := hi; omega
  obtain ⟨l, w6, hcv, hp6, hl⟩ := conv_bytes (P := Tryz.prog) u9 u37 u5 s (by omega) w5
  have hb6 := hp6.blk hb5
  have hlen := hl.len
  have hlen2 : s.data.toList.length = s.size := by simp
  have e2 : (decide (s.size <= 2048) && pageB (q : Int) && textB s.data.toList (q : Int)) = textB s.data.toList (q : Int) := by rw [hpg, decide_eq_true (by omega)]; rfl
  refine ⟨l, w6, hcv, loopUp s.data.toList.length (fun k t w' => t = (k : Int) /\ w' = w6 /\ textB (s.data.toList.take k) (q : Int) = true) ⟨rfl, rfl, rfl⟩ ?_⟩
  rintro k J t w7 hk ⟨ht, hw7, htx⟩ hJ
  obtain rfl : t = (k : Int) := ht
  obtain rfl : w7 = w6 := hw7
  have hpu : Pu w w7 := (((hp1.trans hp2).trans hp3).trans hp35).trans hp6
  refine Br.of (fun d1 => ?_) (fun d1 => ?_)
  · have hk2 : k < s.data.toList.length := by have := dtrue d1; omega
    obtain ⟨b, hb⟩ := at_k hk2
    obtain ⟨a, ha, hi, hcell⟩ := hl.u8 hb
    have hbl := b.toNat_lt
    obtain ⟨n, hn1, hn2⟩ := hat b.toNat (by omega)
    refine ⟨a, ha, by omega, by omega, _, by simpa using hcell, by omega, by omega, n, ?_, ?_⟩
    · rw [add_def, cell_blk hb6, Nat.zero_add, Int.toNat_natCast, Nat.mul_one]; exact hn1
    rw [hn2, on_sg hq]
    refine Br.of (fun d2 => ⟨?_, hpu⟩) (fun d2 => ?_)
    · have d2 : onB b (q : Int) = false := by simpa using d2
      have : textB s.data.toList (q : Int) = false := by
        unfold textB; rw [List.all_eq_false]; exact ⟨b, List.mem_of_getElem? hb, by rw [d2]; simp⟩
      rw [e2, this, if_neg hs2, hpg]; rfl
    · have d2 : onB b (q : Int) = true := by simpa using d2
      rw [wrap_in (by omega) (by omega)]
      exact hJ _ _ hk2 ⟨by omega, rfl, by unfold textB at *; rw [all_take _ hb, htx, d2]; rfl⟩
  · have hk2 : k = s.data.toList.length := by have := dfalse d1; omega
    rw [hk2, List.take_length] at htx
    exact ⟨by rw [e2, htx, if_neg hs2, hpg]; rfl, hpu⟩
theorem isText_c (s : ByteArray) (hs : s.size <= 2048) {p : Int} (hpg : pageB p = true) (w : World) : Calls Tryz.prog 110 #[.string s, .int .i64 p] w fun e w' => e = .returned (.bool (textB s.data.toList p)) /\ Pu w w' := by
  refine F110_calls _ _ w _ ((textValid_c s (by omega) p w).mono ?_)
  rintro e w2 ⟨rfl, hp⟩
  have e1 : (decide (s.size <= 2048) && pageB p && textB s.data.toList p) = textB s.data.toList p := by rw [hpg, decide_eq_true hs]; rfl
  refine ⟨_, _, rfl, ?_⟩
  rw [e1, if_neg (by omega), hpg]
  exact Br.of (fun d => ⟨by rw [d]; rfl, hp⟩) (fun d => ⟨by rw [d], hp⟩)
theorem on_c (b : UInt8) (p : Int) (w : World) : Calls Tryz.prog 149 #[.int .u8 ((b.toNat : Nat) : Int), .int .i64 p] w fun e w' => e = .returned (.bool (onB b p)) /\ Pu w w' := by
  have hu := b.toNat_lt
  refine F149_calls _ _ w _ (Br.of (fun d => ⟨?_, Pu.refl w⟩) (fun d => Br.of (fun d1 => ⟨?_, Pu.refl w⟩) (fun d1 => Br.of (fun d2 => ⟨?_, Pu.refl w⟩) (fun d2 => Br.of (fun d3 => ⟨?_, Pu.refl w⟩) (fun d3 => ⟨?_, Pu.refl w⟩)))))
  · rw [onB, if_pos (btrue d)]; congr 2; exact dec_eq (by omega)
  · rw [onB, if_neg (bfalse d), if_pos (btrue d1)]
  · have := dtrue d2
    rw [onB, if_neg (bfalse d), if_neg (bfalse d1), decide_eq_true (show b.toNat < 176 by omega)]; rfl
  · have := dfalse d2; have := dtrue d3
    rw [onB, if_neg (bfalse d), if_neg (bfalse d1), decide_eq_false (show ¬ b.toNat < 176 by omega), decide_eq_true (show 224 <= b.toNat by omega), Bool.false_or, Bool.true_and]; congr 2; exact dec_eq (by omega)
  · have := dfalse d2; have := dfalse d3
    rw [onB, if_neg (bfalse d), if_neg (bfalse d1), decide_eq_false (show ¬ b.toNat < 176 by omega), decide_eq_false (show ¬ 224 <= b.toNat by omega)]; rfl
theorem rWritten_c (s : ByteArray) (hs : s.size <= 140737488355328) (p : Int) (w : World) : Calls Tryz.prog 100 #[.string s, .int .i64 p] w fun e w' => e = .returned (.bool (textB s.data.toList p)) /\ Pu w w' := by
  refine F100_calls _ _ w _ ?_
  refine loopUp s.size (fun k t w' => t = (k : Int) /\ Pu w w' /\ textB (s.data.toList.take k) p = true) ⟨rfl, Pu.refl _, rfl⟩ ?_
  rintro k J t w2 hk ⟨ht, hp, htx⟩ hJ
  obtain rfl : t = (k : Int) := ht
  refine Br.of (fun d => ?_) (fun d => ?_)
  · have hk2 : k < s.size := by have := dtrue d; omega
    obtain ⟨b, hb1, hb2⟩ := at_byte hk2
    refine ⟨b, by omega, by rw [Int.toNat_natCast]; exact hb1, (on_c b p w2).mono ?_⟩
    rintro e w3 ⟨rfl, hp3⟩
    refine ⟨_, rfl, Br.of (fun d1 => ⟨?_, hp.trans hp3⟩) (fun d1 => ?_)⟩
    · have d1 : onB b p = false := by simpa using d1
      have : textB s.data.toList p = false := by
        unfold textB; rw [List.all_eq_false]; exact ⟨b, List.mem_of_getElem? hb2, by rw [d1]; simp⟩
      rw [this]
    · have d1 : onB b p = true := by simpa using d1
      rw [wrap_in (by omega) (by omega)]
      exact hJ _ _ hk2 ⟨by omega, hp.trans hp3, by unfold textB at *; rw [all_take _ hb2, htx, d1]; rfl⟩
  · have hk2 : k = s.data.toList.length := by have := dfalse d; simp; omega
    rw [hk2, List.take_length] at htx
    exact ⟨by rw [htx], hp⟩
end Go.Proofs.YtcihcbfcgjepfaaGreatDoor

/- Table: what a value becomes in a field. No condition. -/
set_option maxRecDepth 100000
set_option linter.unusedVariables false
set_option linter.unusedSimpArgs false
namespace Go.Proofs.YtcihcbfcgjepfaaGreatDoor
open Go.Sh Go.RowKit
theorem min_run (ts : Array TypeId) (r : TypeId) (k : IntKind) (a b : Int) (w : World) : (Builtin.min_ ts r #[.int k a, .int k b]).run Tryz.prog w = .ok (.int k (min a b)) w := by
  rw [run_min_int2]; congr 2; omega
theorem valid_ok {v : Val} (h : validV v = 0) : v.s.size <= 2048 /\ okN v.kind v.n = true /\ (v.kind = 4 ∨ v.s.size = 0) := by
  rw [validV_eq] at h
  by_cases h1 : 2048 < v.s.size
  · rw [if_pos h1] at h; omega
  · rw [if_neg h1] at h
    cases h2 : valueB v
    · rw [h2] at h; simp at h
    · unfold valueB at h2; simp at h2; exact ⟨by omega, h2.1, h2.2.imp id fun e => by rw [e]; rfl⟩
def strL (n w : Int) : List UInt8 := if w < (decI n).length then List.replicate w.toNat 42 else List.replicate (w.toNat - (decI n).length) 32 ++ decI n
theorem str_c {n w : Int} (h1 : -1000000000000000 <= n /\ n <= 1000000000000000) (h2 : 1 <= w /\ w <= 254) (W : World) : Calls Tryz.prog 111 #[.int .i64 n, .int .i64 w] W fun e W' => e = .returned (.tuple #[.string (bs (strL n w)), .int .i64 0]) /\ Pu W W' := by
  refine F111_calls _ _ W _ ((isNum_c n W).mono ?_)
  rintro e W1 ⟨rfl, hp1⟩
  refine ⟨_, rfl, ?_⟩
  rw [decide_eq_true h1.1, decide_eq_true h1.2]
  refine Br.f rfl (Br.of (fun d => absurd (dtrue d) (by omega)) (fun _ => Br.of (fun d => absurd (dtrue d) (by omega)) (fun _ => (dec_c (by omega) (by omega) W1).mono ?_)))
  rintro e W2 ⟨rfl, hp2⟩
  have es := bs_size (decI n)
  refine ⟨_, rfl, Br.of (fun d => ?_) (fun d => ?_)⟩
  · have d := dtrue d
    have e1 : w = ((w.toNat : Nat) : Int) := by omega
    rw [show (Value.int .i64 w) = .int .i64 ((w.toNat : Nat) : Int) by rw [← e1]]
    refine (repeat_c 42 w.toNat (by omega) W2).mono ?_
    rintro e W3 ⟨rfl, hp3⟩
    exact ⟨_, rfl, by unfold strL; rw [if_pos (by omega)], (hp1.trans hp2).trans hp3⟩
  · have d := dfalse d
    rw [F111_1, wrap_in (by omega) (by omega)]
    have e1 : w - (((bs (decI n)).size : Nat) : Int) = ((w.toNat - (decI n).length : Nat) : Int) := by omega
    rw [e1]
    refine (repeat_c 32 _ (by omega) W2).mono ?_
    rintro e W3 ⟨rfl, hp3⟩
    refine ⟨_, rfl, ?_, ?_, (hp1.trans hp2).trans hp3⟩
    · rw [bs_size, bs_size]; simp only [List.length_replicate]; omega
    · rw [bs_append]; unfold strL; rw [if_neg (by omega)]
theorem prefix_c (s : ByteArray) (b : UInt8) (w : World) : Calls Tryz.prog 112 #[.string s, .string ⟨#[b]⟩] w fun e w' => e = .returned (.bool (decide (s.data.toList.head? = some b))) /\ Pu w w' :=
  (Any.strings_HasPrefix Tryz.lays99 s ⟨#[b]⟩ w).mono fun e w' ⟨h1, h2⟩ => ⟨by
    rw [h1]; congr 2
    show Lib.hasPrefix s.data.toList [b] = _
    unfold Lib.hasPrefix
    cases s.data.toList with
    | nil => rfl
    | cons a l =>
      rw [List.isPrefixOf_cons_cons, List.isPrefixOf_nil_left, Bool.and_true]
      by_cases h : b = a
      · simp [h]
      · simp [h, Ne.symm h], h2 ▸ Pu.refl _⟩
theorem decI_head (n : Int) : ∃ b l, decI n = b :: l /\ b ≠ 42 := by
  by_cases h : n < 0
  · exact ⟨45, _, decI_neg h, by decide⟩
  · have hn : decI n = decN n.natAbs := by unfold decI; rw [if_neg h]
    cases hl : decN n.natAbs with
    | nil => have := decN_pos n.natAbs; rw [hl] at this; simp at this
    | cons b l =>
      refine ⟨b, l, by rw [hn, hl], fun e => ?_⟩
      have := decN_digit n.natAbs b (by rw [hl]; simp)
      rw [e] at this; simp at this
theorem strL_head {n w : Int} (h : 1 <= w) : decide ((strL n w).head? = some 42) = decide (w < (decI n).length) := by
  obtain ⟨b, l, hd, hb⟩ := decI_head n
  unfold strL
  by_cases h1 : w < (decI n).length
  · rw [if_pos h1, decide_eq_true h1]
    obtain ⟨k, hk⟩ : ∃ k, w.toNat = k + 1 := ⟨w.toNat - 1, by omega⟩
    rw [hk, List.replicate_succ]; simp
  · rw [if_neg h1, decide_eq_false h1]
    cases hm : w.toNat - (decI n).length with
    | zero => rw [hd]; simp [hb]
    | succ m => simp [List.replicate_succ]
theorem retV {w : World} {r : Nat} {c : Array Value} (v : Val) (k : Int) {R : Rt} (hb : w.heap[r]? = some (.cells c 28)) (hc : c.size = 3) (hR : ∀ w', Fr (· = r) w w' -> R (.returned (.tuple #[valA v, .int .i64 k])) w') :
    stA Tryz.prog 28 (⟨r, 0, none⟩ : Addr) #[.int .i64 v.kind, .int .i64 v.n, .string v.s] w fun w' => ∃ n0 : Int, w'.cell? ((⟨r, 0, none⟩ : Addr).add 0) = some (.int .i64 n0) /\ ∃ n1 : Int, w'.cell? ((⟨r, 0, none⟩ : Addr).add 1) = some (.int .i64 n1) /\
      ∃ s2 : ByteArray, w'.cell? ((⟨r, 0, none⟩ : Addr).add 2) = some (.string s2) /\ R (.returned (.tuple #[.agg #[.int .i64 n0, .int .i64 n1, .string s2], .int .i64 k])) w' :=
  stA_fill hb s25.symm (by rw [hc]; rfl) rfl fun w' hb' hf _ => ⟨_, cl hb' 0, _, cl hb' 1, _, cl hb' 2, hR w' hf⟩
theorem fitS_wrong {f : Fld} {p : Int} {v : Val} (h : (fieldB f && pageB p) = false) : fitS f p v = (noV, 1) := by unfold fitS; rw [h]; rfl
theorem fitS_invalid {f : Fld} {p : Int} {v : Val} (h : (fieldB f && pageB p) = true) (h2 : validV v ≠ 0) : fitS f p v = (noV, validV v) := by unfold fitS; rw [h, if_pos rfl, if_pos h2]
theorem fitS_fitted {f : Fld} {p : Int} {v : Val} (h : (fieldB f && pageB p) = true) (h2 : validV v = 0) : fitS f p v = fitted f p v := by unfold fitS; rw [h, if_pos rfl, if_neg (by omega)]
theorem fld_text {f : Fld} (h : fieldB f = true) (hk : f.kind = 4) : 1 <= f.width /\ f.width <= 254 := by
  unfold fieldB kindW at h; rw [hk] at h; simp at h; exact h.2
theorem fld_num {f : Fld} (h : fieldB f = true) (hk : f.kind = 2) : 1 <= f.width /\ f.width <= 15 := by
  unfold fieldB kindW at h; rw [hk] at h; simp at h; exact h.2
theorem take_min (l : List UInt8) (w : Int) (n : Nat) (hn : l.length = n) (hw : 0 <= w) : l.take (min (n : Int) w).toNat = l.take w.toNat := by
  by_cases h : (n : Int) <= w
  · rw [show (min (n : Int) w).toNat = n by omega, List.take_of_length_le (by omega), List.take_of_length_le (by omega)]
  · rw [show min (n : Int) w = w by omega]
theorem bare_le (l : List UInt8) : (bare l).length <= l.length := by
  unfold bare
  have h := List.IsSuffix.length_le (List.dropWhile_suffix (· == (32 : UInt8)) (l := l.reverse))
  simpa using h
theorem fit_c (f : Fld) (p : Int) (v : Val) (hs : f.name.size <= 140737488355328) (w : World) : Calls Tryz.prog 52 #[fldA f, .int .i64 p, valA v] w fun e w' =>
    e = .returned (.tuple #[valA (fitS f p v).1, .int .i64 (fitS f p v).2]) /\ Pu w w' := by
  refine F52_calls _ _ _ _ _ _ _ _ w _ ?_
  refine alB fun w1 hp1 hb1 => alB fun w2 hp2 hb2 => alB fun w3 hp3 hb3 => ?_
  have z1 : w1.heap.size <= w2.heap.size := hp2.size
  have z0 : w.heap.size <= w1.heap.size := hp1.size
  have l1 : w.heap.size < w1.heap.size := blk_lt hb1
  have l2 : w1.heap.size < w2.heap.size := blk_lt hb2
  have hp03 : Pu w w3 := (hp1.trans hp2).trans hp3
  -- a value and a code are handed back
  have out : ∀ {wz : World} (v' : Val) (k : Int) {c : Array Value}, Pu w wz -> wz.heap[w2.heap.size]? = some (.cells c 28) -> c.size = 3 -> fitS f p v = (v', k) ->
      stA Tryz.prog 28 (⟨w2.heap.size, 0, none⟩ : Addr) #[.int .i64 v'.kind, .int .i64 v'.n, .string v'.s] wz fun w' => ∃ n0 : Int, w'.cell? ((⟨w2.heap.size, 0, none⟩ : Addr).add 0) = some (.int .i64 n0) /\ ∃ n1 : Int, w'.cell? ((⟨w2.heap.size, 0, none⟩ : Addr).add 1) = some (.int .i64 n1) /\
        ∃ s2 : ByteArray, w'.cell? ((⟨w2.heap.size, 0, none⟩ : Addr).add 2) = some (.string s2) /\ (Ending.returned (.tuple #[.agg #[.int .i64 n0, .int .i64 n1, .string s2], .int .i64 k]) = .returned (.tuple #[valA (fitS f p v).1, .int .i64 (fitS f p v).2]) /\ Pu w w') := fun {wz} v' k {c} h1 h2 h3 h4 =>
    retV (R := fun e w' => e = .returned (.tuple #[valA (fitS f p v).1, .int .i64 (fitS f p v).2]) /\ Pu w w') v' k h2 h3 fun w' hf => ⟨by rw [h4], h1.andNew hf fun i hi => by have hi : i = w2.heap.size := hi; omega⟩
  have b1 : ∀ {wz}, Pu w3 wz -> wz.heap[w.heap.size]? = some (.cells #[.string f.name, .int .i64 f.kind, .int .i64 f.width, .bool f.null] 38) := fun h => h.blk (hp3.blk (hp2.blk hb1))
  have b2 : ∀ {wz}, Pu w3 wz -> wz.heap[w1.heap.size]? = some (.cells #[.int .i64 v.kind, .int .i64 v.n, .string v.s] 28) := fun h => h.blk (hp3.blk hb2)
  have b3 : ∀ {wz}, Pu w3 wz -> wz.heap[w2.heap.size]? = some (.cells #[.int .i64 0, .int .i64 0, .string ⟨#[]⟩] 28) := fun h => h.blk hb3
  have q0 := b1 (Pu.refl w3)
  refine ⟨_, cl q0 0, _, cl q0 1, _, cl q0 2, _, cl q0 3, (isField_c f hs w3).mono ?_⟩
  rintro e w4 ⟨rfl, hp4⟩
  refine ⟨_, rfl, Br.of (fun d => out noV 1 (hp03.trans hp4) (b3 hp4) rfl (fitS_wrong (by simp at d; simp [d]))) (fun d => (isPage_c p w4).mono ?_)⟩
  have hfB : fieldB f = true := by simpa using d
  rintro e w5 ⟨rfl, hp5⟩
  have hp35 := hp4.trans hp5
  refine ⟨_, rfl, Br.of (fun d => out noV 1 (hp03.trans hp35) (b3 hp35) rfl (fitS_wrong (by simp at d; simp [d]))) (fun d => ?_)⟩
  have hpB : pageB p = true := by simpa using d
  have hB : (fieldB f && pageB p) = true := by rw [hfB, hpB]; rfl
  refine ⟨_, cl (b2 hp35) 0, _, cl (b2 hp35) 1, _, cl (b2 hp35) 2, (valid_c v w5).mono ?_⟩
  rintro e w6 ⟨rfl, hp6⟩
  have hp36 := hp35.trans hp6
  have hp06 := hp03.trans hp36
  refine ⟨_, rfl, Br.of (fun d => out noV (validV v) hp06 (b3 hp36) rfl (fitS_invalid hB (bntrue d))) (fun d => ?_)⟩
  have hv := bnfalse d
  obtain ⟨hvs, hvn, hv4⟩ := valid_ok hv
  have hF := fitS_fitted (f := f) (p := p) hB hv
  refine ⟨_, cl0 (b2 hp36), Br.of (fun d0 => ⟨_, cl (b1 hp36) 3, Br.of (fun d1 => out noV 7 hp06 (b3 hp36) rfl ?_) (fun d1 => ⟨_, cl (b2 hp36) 0, _, cl (b2 hp36) 1, _, cl (b2 hp36) 2, out v 0 hp06 (b3 hp36) rfl ?_⟩)⟩) (fun d0 => ?_)⟩
  · rw [hF]; unfold fitted; rw [if_pos (btrue d0), show f.null = false by simpa using d1]; rfl
  · rw [hF]; unfold fitted; rw [if_pos (btrue d0), show f.null = true by simpa using d1]; rfl
  have d0 := bfalse d0
  refine dwE_intro fun w7 hp7 hh7 => ⟨fun u => Pu w7 u, Pu.refl _, v.kind, fun u hu => cl0 (b2 ((hp36.trans hp7).trans hu)), f.name, fun u hu => cl (b1 ((hp36.trans hp7).trans hu)) 0, f.kind, fun u hu => cl (b1 ((hp36.trans hp7).trans hu)) 1, f.width, fun u hu => cl (b1 ((hp36.trans hp7).trans hu)) 2, f.null, fun u hu => cl (b1 ((hp36.trans hp7).trans hu)) 3, (empty_c f w7).mono ?_⟩
  rintro e w8 ⟨rfl, hp8⟩
  have hp38 := (hp36.trans hp7).trans hp8
  have hp08 := hp03.trans hp38
  refine ⟨_, _, _, rfl, hp8, Br.of (fun d1 => out noV 6 hp08 (b3 hp38) rfl ?_) (fun d1 => ⟨_, cl (b1 hp38) 1, ?_⟩)⟩
  · rw [hF]; unfold fitted; rw [if_neg d0, if_pos (bntrue d1)]
  have d1 := bnfalse d1
  have hF2 : fitS f p v = if f.kind = 4 then (if textB (bare (v.s.data.toList.take f.width.toNat)) p then (⟨4, 0, bs (bare (v.s.data.toList.take f.width.toNat))⟩, 0) else (noV, 10)) else if fitsV f p v then (v, 0) else (noV, 10) := by
    rw [hF]; unfold fitted; rw [if_neg d0, if_neg (by rw [d1]; simp)]
  have hv0 : ¬ validV v ≠ 0 := by omega
  -- what a value is that stays
  have stay : ∀ {wz : World}, Pu w3 wz -> fitS f p v = (v, 0) -> ∃ n0 : Int, wz.cell? ((⟨w1.heap.size, 0, none⟩ : Addr).add 0) = some (.int .i64 n0) /\ ∃ n1 : Int, wz.cell? ((⟨w1.heap.size, 0, none⟩ : Addr).add 1) = some (.int .i64 n1) /\ ∃ s2 : ByteArray, wz.cell? ((⟨w1.heap.size, 0, none⟩ : Addr).add 2) = some (.string s2) /\
      stA Tryz.prog 28 (⟨w2.heap.size, 0, none⟩ : Addr) #[.int .i64 n0, .int .i64 n1, .string s2] wz fun w' => ∃ n0 : Int, w'.cell? ((⟨w2.heap.size, 0, none⟩ : Addr).add 0) = some (.int .i64 n0) /\ ∃ n1 : Int, w'.cell? ((⟨w2.heap.size, 0, none⟩ : Addr).add 1) = some (.int .i64 n1) /\
        ∃ s2 : ByteArray, w'.cell? ((⟨w2.heap.size, 0, none⟩ : Addr).add 2) = some (.string s2) /\ (Ending.returned (.tuple #[.agg #[.int .i64 n0, .int .i64 n1, .string s2], .int .i64 0]) = .returned (.tuple #[valA (fitS f p v).1, .int .i64 (fitS f p v).2]) /\ Pu w w') := fun {wz} h h2 =>
    ⟨_, cl (b2 h) 0, _, cl (b2 h) 1, _, cl (b2 h) 2, out v 0 (hp03.trans h) (b3 h) rfl h2⟩
  refine Br.of (fun d2 => ?_) (fun d2 => Br.of (fun d3 => ?_) (fun d3 => Br.of (fun d4 => ?_) (fun d4 => ?_)))
  · have d2 := btrue d2
    obtain ⟨wl, wh⟩ := fld_text hfB d2
    rw [if_pos d2] at hF2
    refine ⟨_, cl (b2 hp38) 2, _, cl (b2 hp38) 2, _, cl (b1 hp38) 2, _, w8, min_run _ _ _ _ _ _, by omega, by omega, by omega, (trimRight_c _ (by have := extract_list v.s 0 (min (v.s.size : Int) f.width).toNat; have := size_list (v.s.extract 0 (min (v.s.size : Int) f.width).toNat); simp at *; omega) w8).mono ?_⟩
    rintro e w9 ⟨rfl, hp9⟩
    have et : (v.s.extract 0 (min (v.s.size : Int) f.width).toNat).data.toList = v.s.data.toList.take f.width.toNat := by
      rw [extract_list, List.drop_zero]; exact take_min _ _ _ (by simp) (by omega)
    rw [et]
    have hp39 := hp38.trans hp9
    have hkind : v.kind = 4 := by rw [d1]; unfold emptyV; rw [if_neg (by omega)]; exact d2
    have hn0 : v.n = 0 := by rw [hkind] at hvn; simpa [okN] using hvn
    have hbl : (bs (bare (v.s.data.toList.take f.width.toNat))).size <= 2048 := by
      rw [bs_size]; have := bare_le (v.s.data.toList.take f.width.toNat); have := List.length_take_le f.width.toNat v.s.data.toList; have := List.length_take_le' f.width.toNat v.s.data.toList; rw [size_list] at this; omega
    generalize hg : bare (v.s.data.toList.take f.width.toNat) = B at *
    refine ⟨_, rfl, ?_⟩
    rw [ptrE_some, add_def, Nat.zero_add]
    refine st1_intro (b2 hp39) (show 2 < 3 by omega) fun w10 hw10 hb10 => ?_
    have hf10 : Fr (· = w1.heap.size) w9 w10 := by rw [hw10]; exact Fr.cell w9 _ 2 _
    have hb10' : w10.heap[w1.heap.size]? = some (.cells #[.int .i64 v.kind, .int .i64 v.n, .string (bs B)] 28) := hb10
    have hpu10 : Pu w w10 := (hp03.trans hp39).andNew hf10 fun i hi => by have hi : i = w1.heap.size := hi; omega
    have hb310 := hf10.blk (b3 hp39) (show ¬ w2.heap.size = w1.heap.size by omega)
    refine ⟨_, cl hb10' 2, (isText_c _ hbl hpB w10).mono ?_⟩
    rintro e w11 ⟨rfl, hp11⟩
    rw [bs_list]
    refine ⟨_, rfl, Br.of (fun d3 => out noV 10 (hpu10.trans hp11) (hp11.blk hb310) rfl ?_) (fun d3 => ⟨_, cl (hp11.blk hb10') 0, _, cl (hp11.blk hb10') 1, _, cl (hp11.blk hb10') 2, ?_⟩)⟩
    · rw [hF2, show textB B p = false by simpa using d3]; rfl
    · rw [hkind, hn0]
      exact out ⟨4, 0, bs B⟩ 0 (hpu10.trans hp11) (hp11.blk hb310) rfl (by rw [hF2, show textB B p = true by simpa using d3]; rfl)
  · have d2 := bfalse d2
    have d3 := btrue d3
    obtain ⟨wl, wh⟩ := fld_num hfB d3
    have hkind : v.kind = 2 := by rw [d1]; unfold emptyV; rw [if_neg (by omega)]; exact d3
    have hn : -1000000000000000 <= v.n /\ v.n <= 1000000000000000 := by rw [hkind] at hvn; simpa [okN] using hvn
    have hfit : fitsV f p v = decide (((decI v.n).length : Int) <= f.width) := by
      unfold fitsV; rw [if_neg hv0, if_neg d0, if_neg (by omega), if_neg (by rw [hkind, d3]; simp), if_pos d3]
    rw [if_neg d2, hfit] at hF2
    refine ⟨_, cl (b2 hp38) 1, _, cl (b1 hp38) 2, (str_c hn ⟨wl, by omega⟩ w8).mono ?_⟩
    rintro e w9 ⟨rfl, hp9⟩
    have hp39 := hp38.trans hp9
    refine ⟨_, _, rfl, Br.of (fun d4 => absurd rfl (bntrue d4)) (fun _ => (prefix_c _ 42 w9).mono ?_)⟩
    rintro e w10 ⟨rfl, hp10⟩
    have hp310 := hp39.trans hp10
    refine ⟨_, rfl, ?_⟩
    rw [bs_list, strL_head wl]
    refine Br.of (fun d4 => out noV 10 (hp03.trans hp310) (b3 hp310) rfl ?_) (fun d4 => stay hp310 ?_)
    · rw [hF2, decide_eq_false (by have := dtrue d4; omega)]; rfl
    · rw [hF2, decide_eq_true (by have := dfalse d4; omega)]; rfl
  · have d2 := bfalse d2
    have d4 := btrue d4
    have hkind : v.kind = 2 := by rw [d1]; unfold emptyV; rw [if_pos d4]
    have hfit : fitsV f p v = memoN v.n := by
      unfold fitsV; rw [if_neg hv0, if_neg d0, if_pos d4, hkind]; rfl
    rw [if_neg d2, hfit] at hF2
    refine ⟨_, cl (b2 hp38) 1, Br.of (fun d5 => out noV 10 hp08 (b3 hp38) rfl ?_) (fun d5 => ⟨_, cl (b2 hp38) 1, Br.of (fun d6 => out noV 10 hp08 (b3 hp38) rfl ?_) (fun d6 => stay hp38 ?_)⟩)⟩
    · rw [hF2, show memoN v.n = false by unfold memoN; rw [decide_eq_false (by have := dtrue d5; omega)]; rfl]; rfl
    · rw [hF2, show memoN v.n = false by unfold memoN; rw [decide_eq_false (show ¬ v.n <= 99999999 by have := dtrue d6; omega)]; simp]; rfl
    · rw [hF2, show memoN v.n = true by unfold memoN; rw [decide_eq_true (show 0 <= v.n by have := dfalse d5; omega), decide_eq_true (show v.n <= 99999999 by have := dfalse d6; omega)]; rfl]; rfl
  · have d2 := bfalse d2
    have d3 := bfalse d3
    have d4 := bfalse d4
    have hfit : fitsV f p v = true := by
      unfold fitsV; rw [if_neg hv0, if_neg d0, if_neg d4, if_neg (by rw [d1]; unfold emptyV; rw [if_neg d4]; simp), if_neg d3, if_neg d2]
    rw [if_neg d2, hfit] at hF2
    exact stay hp38 hF2
end Go.Proofs.YtcihcbfcgjepfaaGreatDoor
