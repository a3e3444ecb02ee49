import Derived.Test.YtecmfdfhpldmmaaGreatDoorShNine
import Derived.Test.YtecmfdfhpldmmaaGreatDoorShSeventeen
/- Table: data, and what is computed on it, in plain words. No condition. -/
set_option linter.unusedVariables false
set_option linter.unusedSimpArgs false
namespace Go.Proofs.YtecmfdfhpldmmaaGreatDoor
open Go.Sh Go.RowKit
theorem drop_at {α : Type} {l : List α} {k : Nat} {x : α} (h : l[k]? = some x) : l.drop k = x :: l.drop (k + 1) := by
  obtain ⟨h1, h2⟩ := List.getElem?_eq_some_iff.1 h
  rw [List.drop_eq_getElem_cons h1, h2]
theorem take_at {α : Type} {l : List α} {k : Nat} {x : α} (h : l[k]? = some x) : l.take (k + 1) = l.take k ++ [x] := by
  rw [List.take_add_one, h]; rfl
theorem at_k {α : Type} {l : List α} {k : Nat} (h : k < l.length) : ∃ x, l[k]? = some x := ⟨_, List.getElem?_eq_getElem h⟩
theorem add0 (a : Addr) : a.add 0 = a := by simp [Addr.add]
theorem toList_beq (s t : ByteArray) : (s.toList == t.toList) = decide (s = t) := by rw [← beq_toListBytes, beq_bytes]
theorem bytes_ext {s t : ByteArray} (h : s.data.toList = t.data.toList) : s = t := by
  obtain ⟨⟨a⟩⟩ := s; obtain ⟨⟨b⟩⟩ := t; simp at h; rw [h]
theorem size_list (s : ByteArray) : s.data.toList.length = s.size := by simp
abbrev bs (l : List UInt8) : ByteArray := ⟨l.toArray⟩
theorem bs_list (l : List UInt8) : (bs l).data.toList = l := by simp [bs]
theorem bs_size (l : List UInt8) : (bs l).size = l.length := by simp [bs, ByteArray.size]
structure Fld where
  name : ByteArray
  kind : Int
  width : Int
  null : Bool
deriving DecidableEq, Inhabited
structure Val where
  kind : Int
  n : Int
  s : ByteArray
deriving DecidableEq, Inhabited
structure Rec where
  gone : Bool
  v : List Val
deriving DecidableEq, Inhabited
structure Tbl where
  page : Int
  fields : List Fld
  recs : List Rec
deriving DecidableEq, Inhabited
def In64 (n : Int) : Prop := -9223372036854775808 ≤ n ∧ n ≤ 9223372036854775807
instance : Enc Bool where
  sz := 1
  rd _ vs b := vs = [.bool b]
  len h := by rw [h]; rfl
  pu _ h := h
abbrev fldV (f : Fld) : List Value := [.string f.name, .int .i64 f.kind, .int .i64 f.width, .bool f.null]
abbrev valV (v : Val) : List Value := [.int .i64 v.kind, .int .i64 v.n, .string v.s]
instance : Enc Fld where
  sz := 4
  rd _ vs f := vs = fldV f ∧ In64 f.kind ∧ In64 f.width
  len h := by rw [h.1]; rfl
  pu _ h := h
instance : Lim Fld := ⟨fun f => Lim.ok f.name⟩
instance : Enc Val where
  sz := 3
  rd _ vs v := vs = valV v ∧ In64 v.kind ∧ In64 v.n
  len h := by rw [h.1]; rfl
  pu _ h := h
instance : Lim Val := ⟨fun v => Lim.ok v.s⟩
instance : Enc Rec where
  sz := 2
  rd w vs r := ∃ s : SV, vs = [.bool r.gone, .slice s.a s.len s.cap] ∧ RdSl w s r.v
  len h := by obtain ⟨s, rfl, _⟩ := h; rfl
  pu hp h := let ⟨s, h1, h2⟩ := h; ⟨s, h1, h2.pu hp⟩
instance : Lim Rec := ⟨fun r => Lim.ok r.v⟩
/-- A table's parts, read. -/
structure RdTbl (w : World) (t : Tbl) (f r : SV) : Prop where
  page : In64 t.page
  fields : RdSl w f t.fields
  recs : RdSl w r t.recs
theorem RdTbl.pu {w w' : World} {t : Tbl} {f r : SV} (h : RdTbl w t f r) (hp : Pu w w') : RdTbl w' t f r := ⟨h.page, h.fields.pu hp, h.recs.pu hp⟩
instance : Enc Tbl where
  sz := 3
  rd w vs t := ∃ f r : SV, vs = [.int .i64 t.page, .slice f.a f.len f.cap, .slice r.a r.len r.cap] ∧ RdTbl w t f r
  len h := by obtain ⟨f, r, rfl, _⟩ := h; rfl
  pu hp h := let ⟨f, r, h1, h2⟩ := h; ⟨f, r, h1, h2.pu hp⟩
instance : Lim Tbl := ⟨fun t => Lim.ok t.fields ∧ Lim.ok t.recs⟩
theorem fldAt {w : World} {s : SV} {l : List Fld} (h : RdSl w s l) {i : Nat} {f : Fld} (hx : l[i]? = some f) : ∃ a, s.a = some a ∧ i < s.len ∧ In64 f.kind ∧ In64 f.width ∧
    w.cell? (a.add (i * 4)) = some (.string f.name) ∧ w.cell? ((a.add (i * 4)).add 0) = some (.string f.name) ∧ w.cell? ((a.add (i * 4)).add 1) = some (.int .i64 f.kind) ∧ w.cell? ((a.add (i * 4)).add 2) = some (.int .i64 f.width) ∧ w.cell? ((a.add (i * 4)).add 3) = some (.bool f.null) := by
  obtain ⟨a, ha, vs, ⟨rfl, h1⟩, h2⟩ := h.get i f hx
  have hi : i < l.length := (List.getElem?_eq_some_iff.1 hx).1
  have h2 : CellsAt w (a.add (i * 4)) (fldV f) := h2
  exact ⟨a, ha, by rw [h.len]; exact hi, h1.1, h1.2, by rw [← add0 (a.add _)]; exact h2 0 _ rfl, h2 0 _ rfl, h2 1 _ rfl, h2 2 _ rfl, h2 3 _ rfl⟩
theorem valAt {w : World} {s : SV} {l : List Val} (h : RdSl w s l) {i : Nat} {v : Val} (hx : l[i]? = some v) : ∃ a, s.a = some a ∧ i < s.len ∧ In64 v.kind ∧ In64 v.n ∧
    w.cell? ((a.add (i * 3)).add 0) = some (.int .i64 v.kind) ∧ w.cell? ((a.add (i * 3)).add 1) = some (.int .i64 v.n) ∧ w.cell? ((a.add (i * 3)).add 2) = some (.string v.s) := by
  obtain ⟨a, ha, vs, ⟨rfl, h1⟩, h2⟩ := h.get i v hx
  have hi : i < l.length := (List.getElem?_eq_some_iff.1 hx).1
  have h2 : CellsAt w (a.add (i * 3)) (valV v) := h2
  exact ⟨a, ha, by rw [h.len]; exact hi, h1.1, h1.2, h2 0 _ rfl, h2 1 _ rfl, h2 2 _ rfl⟩
theorem recAt {w : World} {s : SV} {l : List Rec} (h : RdSl w s l) {i : Nat} {r : Rec} (hx : l[i]? = some r) : ∃ a t, s.a = some a ∧ i < s.len ∧ RdSl w t r.v ∧
    w.cell? ((a.add (i * 2)).add 0) = some (.bool r.gone) ∧ w.cell? ((a.add (i * 2)).add 1) = some (.slice t.a t.len t.cap) := by
  obtain ⟨a, ha, vs, ⟨t, rfl, h1⟩, h2⟩ := h.get i r hx
  have hi : i < l.length := (List.getElem?_eq_some_iff.1 hx).1
  have h2 : CellsAt w (a.add (i * 2)) [.bool r.gone, .slice t.a t.len t.cap] := h2
  exact ⟨a, t, ha, by rw [h.len]; exact hi, h1, h2 0 _ rfl, h2 1 _ rfl⟩
def noV : Val := ⟨0, 0, ⟨#[]⟩⟩
def capB (b : UInt8) : Bool := decide (65 ≤ b.toNat) && decide (b.toNat ≤ 90)
def digB (b : UInt8) : Bool := decide (48 ≤ b.toNat) && decide (b.toNat ≤ 57)
def nameB (s : ByteArray) : Bool := decide (1 ≤ s.size) && decide (s.size ≤ 10) && s.data.toList.all (fun b => capB b || digB b || decide (b.toNat = 95)) && (s.data.toList.take 1).all capB
def kindW (k w : Int) : Bool := if k = 1 then decide (w = 1) else if k = 2 then decide (1 ≤ w) && decide (w ≤ 15) else if k = 3 then decide (w = 8) else if k = 4 then decide (1 ≤ w) && decide (w ≤ 254) else if k = 5 then decide (w = 8) else false
def fieldB (f : Fld) : Bool := nameB f.name && kindW f.kind f.width
def pageB (p : Int) : Bool := decide (0 ≤ p) && decide (p ≤ 2)
def onB (b : UInt8) (p : Int) : Bool := if p = 0 then decide (b.toNat < 128) else if p = 1 then true else decide (b.toNat < 176) || (decide (224 ≤ b.toNat) && decide (b.toNat < 240))
def textB (l : List UInt8) (p : Int) : Bool := l.all fun b => onB b p
def nulls (l : List Fld) : Nat := ((l.filter (·.null)).length + 7) / 8
def wide (l : List Fld) : Int := 1 + (nulls l : Int) + (l.map (·.width)).sum
/-- P3.1, of fields. -/
def validF (l : List Fld) : Int := if l = [] ∨ l.all fieldB = false then 1 else if ¬ (l.map (·.name)).Nodup then 5 else if 16 < l.length ∨ 2000 < wide l then 3 else 0
def okN (k n : Int) : Bool := if k = 0 then decide (n = 0) else if k = 1 then decide (n = 0) || decide (n = 1) else if k = 2 then decide (-1000000000000000 ≤ n) && decide (n ≤ 1000000000000000) else if k = 3 then decide (0 ≤ n) && decide (n ≤ 3652059) else if k = 4 then decide (n = 0) else false
/-- P1.1. -/
def validV (v : Val) : Int := if 2048 < v.s.size then 3 else if okN v.kind v.n && (decide (v.kind = 4) || decide (v.s.size = 0)) then 0 else 1
/-- A number in digits. -/
def decN (n : Nat) : List UInt8 := if h : n < 10 then [UInt8.ofNat (48 + n)] else decN (n / 10) ++ [UInt8.ofNat (48 + n % 10)]
 termination_by n
 decreasing_by omega
def decI (n : Int) : List UInt8 := if n < 0 then 45 :: decN n.natAbs else decN n.natAbs
/-- A text without the blanks at its end. -/
def bare (l : List UInt8) : List UInt8 := (l.reverse.dropWhile (· == 32)).reverse
def memoN (n : Int) : Bool := decide (0 ≤ n) && decide (n ≤ 99999999)
/-- Whether a field may have a value. -/
def fitsV (f : Fld) (p : Int) (v : Val) : Bool :=
  if validV v ≠ 0 then false else if v.kind = 0 then f.null else if f.kind = 5 then decide (v.kind = 2) && memoN v.n else if v.kind ≠ f.kind then false
  else if f.kind = 2 then decide (((decI v.n).length : Int) ≤ f.width) else if f.kind = 4 then decide ((v.s.size : Int) ≤ f.width) && decide (bare v.s.data.toList = v.s.data.toList) && textB v.s.data.toList p else true
def emptyV (f : Fld) : Val := if f.kind = 5 then ⟨2, 0, ⟨#[]⟩⟩ else ⟨f.kind, 0, ⟨#[]⟩⟩
/-- What a right value becomes in a right field. -/
def fitted (f : Fld) (p : Int) (v : Val) : Val × Int :=
  if v.kind = 0 then (if f.null then (v, 0) else (noV, 7)) else if v.kind ≠ (emptyV f).kind then (noV, 6)
  else if f.kind = 4 then (if textB (bare (v.s.data.toList.take f.width.toNat)) p then (⟨4, 0, bs (bare (v.s.data.toList.take f.width.toNat))⟩, 0) else (noV, 10))
  else if fitsV f p v then (v, 0) else (noV, 10)
/-- P3.3. -/
def fitS (f : Fld) (p : Int) (v : Val) : Val × Int := if fieldB f && pageB p then (if validV v ≠ 0 then (noV, validV v) else fitted f p v) else (noV, 1)
/-- What is wrong with a record of right fields. -/
def validR (l : List Fld) (p : Int) (r : Rec) : Int := if r.v.length ≠ l.length then 10 else if (l.zip r.v).all (fun x => fitsV x.1 p x.2) then 0 else 1
def firstBad (l : List Fld) (p : Int) : List Rec → Int
  | [] => 0
  | r :: rs => if validR l p r ≠ 0 then validR l p r else firstBad l p rs
/-- P3.1. -/
def validT (t : Tbl) : Int := if pageB t.page then (if validF t.fields ≠ 0 then validF t.fields else if 300 < t.recs.length then 3 else firstBad t.fields t.page t.recs) else 1
end Go.Proofs.YtecmfdfhpldmmaaGreatDoor
