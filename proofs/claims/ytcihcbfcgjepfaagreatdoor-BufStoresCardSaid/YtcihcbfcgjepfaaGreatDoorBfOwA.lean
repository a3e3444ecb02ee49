import Derived.Test.YtcihcbfcgjepfaaGreatDoorShNine
import Derived.Test.YtcihcbfcgjepfaaGreatDoorShSeventeen
import Derived.Test.YtcihcbfcgjepfaaGreatDoorBfPrA
import Derived.Test.YtcihcbfcgjepfaaGreatDoorShTwentyTwo
import Derived.Test.YtcihcbfcgjepfaaGreatDoorBtShelf
import Derived.Test.YtcihcbfcgjepfaaGreatDoorShThirteen
/- Table: data, and what is computed on it, in plain words. No condition. -/
set_option linter.unusedVariables false
set_option linter.unusedSimpArgs false
namespace Go.Proofs.YtcihcbfcgjepfaaGreatDoor
open Go.Sh Go.RowKit Tryz
theorem zVc {α : Type} {l : List α} {k : Nat} {x : α} (h : l[k]? = some x) : l.drop k = x :: l.drop (k + 1) := by
 obtain ⟨h1, h2⟩ := List.getElem?_eq_some_iff.1 h
 rw [List.drop_eq_getElem_cons h1, h2]
theorem zQQ {α : Type} {l : List α} {k : Nat} {x : α} (h : l[k]? = some x) : l.take (k + 1) = l.take k ++ [x] := by
 rw [List.take_add_one, h]; rfl
theorem zXD {α : Type} {l : List α} {k : Nat} (h : k < l.length) : ∃ x, l[k]? = some x := ⟨_, List.getElem?_eq_getElem h⟩
theorem yZB (a : Addr) : a.add 0 = a := by simp [Addr.add]
theorem zZh (s t : ByteArray) : (s.toList == t.toList) = decide (s = t) := by rw [← beq_toListBytes, zX9]
theorem zXA {s t : ByteArray} (h : s.data.toList = t.data.toList) : s = t := by
 obtain ⟨⟨a⟩⟩ := s; obtain ⟨⟨b⟩⟩ := t; simp at h; rw [h]
theorem zZu (s : ByteArray) : s.data.toList.length = s.size := by simp
abbrev bs (l : List UInt8) : ByteArray := ⟨l.toArray⟩
theorem zJp (l : List UInt8) : (bs l).data.toList = l := by simp [bs]
theorem zXu (l : List UInt8) : (bs l).size = l.length := by simp [bs, ByteArray.size]
structure Fld where
 name : ByteArray
 kind : Int
 width : Int
 null : Bool
deriving DecidableEq, Inhabited
structure Val where
 kind : Int
 n : Int
 s : ByteArray
deriving DecidableEq, Inhabited
structure Rec where
 gone : Bool
 v : List Val
deriving DecidableEq, Inhabited
structure Tbl where
 page : Int
 fields : List Fld
 recs : List Rec
deriving DecidableEq, Inhabited
def zWE (n : Int) : Prop := -9223372036854775808 <= n /\ n <= 9223372036854775807
instance : Enc Bool where
 sz := 1
 rd _ vs b := vs = [.bool b]
 len h := by rw [h]; rfl
 pu _ h := h
abbrev zVm (f : Fld) : List Value := [.string f.name, .int .i64 f.kind, .int .i64 f.width, .bool f.null]
abbrev zXO (v : Val) : List Value := [.int .i64 v.kind, .int .i64 v.n, .string v.s]
instance : Enc Fld where
 sz := 4
 rd _ vs f := vs = zVm f /\ zWE f.kind /\ zWE f.width
 len h := by rw [h.1]; rfl
 pu _ h := h
instance : Lim Fld := ⟨fun f => Lim.ok f.name⟩
instance : Enc Val where
 sz := 3
 rd _ vs v := vs = zXO v /\ zWE v.kind /\ zWE v.n
 len h := by rw [h.1]; rfl
 pu _ h := h
instance : Lim Val := ⟨fun v => Lim.ok v.s⟩
instance : Enc Rec where
 sz := 2
 rd w vs r := ∃ s : SV, vs = [.bool r.gone, .slice s.a s.len s.cap] /\ zXH w s r.v
 len h := by obtain ⟨s, rfl, _⟩ := h; rfl
 pu hp h := let ⟨s, h1, h2⟩ := h; ⟨s, h1, h2.pu hp⟩
instance : Lim Rec := ⟨fun r => Lim.ok r.v⟩
structure zKS (w : World) (t : Tbl) (f r : SV) : Prop where
 page : zWE t.page
 fields : zXH w f t.fields
 recs : zXH w r t.recs
theorem zKS.pu {w w' : World} {t : Tbl} {f r : SV} (h : zKS w t f r) (hp : Pu w w') : zKS w' t f r := ⟨h.page, h.fields.pu hp, h.recs.pu hp⟩
instance : Enc Tbl where
 sz := 3
 rd w vs t := ∃ f r : SV, vs = [.int .i64 t.page, .slice f.a f.len f.cap, .slice r.a r.len r.cap] /\ zKS w t f r
 len h := by obtain ⟨f, r, rfl, _⟩ := h; rfl
 pu hp h := let ⟨f, r, h1, h2⟩ := h; ⟨f, r, h1, h2.pu hp⟩
instance : Lim Tbl := ⟨fun t => Lim.ok t.fields /\ Lim.ok t.recs⟩
theorem zJf {w : World} {s : SV} {l : List Fld} (h : zXH w s l) {i : Nat} {f : Fld} (hx : l[i]? = some f) : ∃ a, s.a = some a /\ i < s.len /\ zWE f.kind /\ zWE f.width /\
  w.cell? (a.add (i * 4)) = some (.string f.name) /\ w.cell? ((a.add (i * 4)).add 0) = some (.string f.name) /\ w.cell? ((a.add (i * 4)).add 1) = some (.int .i64 f.kind) /\ w.cell? ((a.add (i * 4)).add 2) = some (.int .i64 f.width) /\ w.cell? ((a.add (i * 4)).add 3) = some (.bool f.null) := by
 obtain ⟨a, ha, vs, ⟨rfl, h1⟩, h2⟩ := h.get i f hx
 have hi : i < l.length := (List.getElem?_eq_some_iff.1 hx).1
 have h2 : zZd w (a.add (i * 4)) (zVm f) := h2
 exact ⟨a, ha, by rw [h.len]; exact hi, h1.1, h1.2, by rw [← yZB (a.add _)]; exact h2 0 _ rfl, h2 0 _ rfl, h2 1 _ rfl, h2 2 _ rfl, h2 3 _ rfl⟩
theorem yWp {w : World} {s : SV} {l : List Val} (h : zXH w s l) {i : Nat} {v : Val} (hx : l[i]? = some v) : ∃ a, s.a = some a /\ i < s.len /\ zWE v.kind /\ zWE v.n /\
  w.cell? ((a.add (i * 3)).add 0) = some (.int .i64 v.kind) /\ w.cell? ((a.add (i * 3)).add 1) = some (.int .i64 v.n) /\ w.cell? ((a.add (i * 3)).add 2) = some (.string v.s) := by
 obtain ⟨a, ha, vs, ⟨rfl, h1⟩, h2⟩ := h.get i v hx
 have hi : i < l.length := (List.getElem?_eq_some_iff.1 hx).1
 have h2 : zZd w (a.add (i * 3)) (zXO v) := h2
 exact ⟨a, ha, by rw [h.len]; exact hi, h1.1, h1.2, h2 0 _ rfl, h2 1 _ rfl, h2 2 _ rfl⟩
theorem yWq {w : World} {s : SV} {l : List Rec} (h : zXH w s l) {i : Nat} {r : Rec} (hx : l[i]? = some r) : ∃ a t, s.a = some a /\ i < s.len /\ zXH w t r.v /\
  w.cell? ((a.add (i * 2)).add 0) = some (.bool r.gone) /\ w.cell? ((a.add (i * 2)).add 1) = some (.slice t.a t.len t.cap) := by
 obtain ⟨a, ha, vs, ⟨t, rfl, h1⟩, h2⟩ := h.get i r hx
 have hi : i < l.length := (List.getElem?_eq_some_iff.1 hx).1
 have h2 : zZd w (a.add (i * 2)) [.bool r.gone, .slice t.a t.len t.cap] := h2
 exact ⟨a, t, ha, by rw [h.len]; exact hi, h1, h2 0 _ rfl, h2 1 _ rfl⟩
def noV : Val := ⟨0, 0, ⟨#[]⟩⟩
def zJI (b : UInt8) : Bool := decide (65 <= b.toNat) && decide (b.toNat <= 90)
def zVl (b : UInt8) : Bool := decide (48 <= b.toNat) && decide (b.toNat <= 57)
def zXE (s : ByteArray) : Bool := decide (1 <= s.size) && decide (s.size <= 10) && s.data.toList.all (fun b => zJI b || zVl b || decide (b.toNat = 95)) && (s.data.toList.take 1).all zJI
def zKH (k w : Int) : Bool := if k = 1 then decide (w = 1) else if k = 2 then decide (1 <= w) && decide (w <= 15) else if k = 3 then decide (w = 8) else if k = 4 then decide (1 <= w) && decide (w <= 254) else if k = 5 then decide (w = 8) else false
def zQr (f : Fld) : Bool := zXE f.name && zKH f.kind f.width
def zQX (p : Int) : Bool := decide (0 <= p) && decide (p <= 2)
def onB (b : UInt8) (p : Int) : Bool := if p = 0 then decide (b.toNat < 128) else if p = 1 then true else decide (b.toNat < 176) || (decide (224 <= b.toNat) && decide (b.toNat < 240))
def zX3 (l : List UInt8) (p : Int) : Bool := l.all fun b => onB b p
def zKI (l : List Fld) : Nat := ((l.filter (·.null)).length + 7) / 8
def wide (l : List Fld) : Int := 1 + (zKI l : Int) + (l.map (·.width)).sum
def zQT (l : List Fld) : Int := if l = [] ∨ l.all zQr = false then 1 else if ¬ (l.map (·.name)).Nodup then 5 else if 16 < l.length ∨ 2000 < wide l then 3 else 0
def okN (k n : Int) : Bool := if k = 0 then decide (n = 0) else if k = 1 then decide (n = 0) || decide (n = 1) else if k = 2 then decide (-1000000000000000 <= n) && decide (n <= 1000000000000000) else if k = 3 then decide (0 <= n) && decide (n <= 3652059) else if k = 4 then decide (n = 0) else false
def zXb (v : Val) : Int := if 2048 < v.s.size then 3 else if okN v.kind v.n && (decide (v.kind = 4) || decide (v.s.size = 0)) then 0 else 1
def zZ8 (n : Nat) : List UInt8 := if h : n < 10 then [UInt8.ofNat (48 + n)] else zZ8 (n / 10) ++ [UInt8.ofNat (48 + n % 10)]
 termination_by n
 decreasing_by omega
def zJK (n : Int) : List UInt8 := if n < 0 then 45 :: zZ8 n.natAbs else zZ8 n.natAbs
def zXU (l : List UInt8) : List UInt8 := (l.reverse.dropWhile (· == 32)).reverse
def zKP (n : Int) : Bool := decide (0 <= n) && decide (n <= 99999999)
def zQK (f : Fld) (p : Int) (v : Val) : Bool :=
 if zXb v ≠ 0 then false else if v.kind = 0 then f.null else if f.kind = 5 then decide (v.kind = 2) && zKP v.n else if v.kind ≠ f.kind then false
 else if f.kind = 2 then decide (((zJK v.n).length : Int) <= f.width) else if f.kind = 4 then decide ((v.s.size : Int) <= f.width) && decide (zXU v.s.data.toList = v.s.data.toList) && zX3 v.s.data.toList p else true
def zXY (f : Fld) : Val := if f.kind = 5 then ⟨2, 0, ⟨#[]⟩⟩ else ⟨f.kind, 0, ⟨#[]⟩⟩
def zXR (f : Fld) (p : Int) (v : Val) : Val × Int :=
 if v.kind = 0 then (if f.null then (v, 0) else (noV, 7)) else if v.kind ≠ (zXY f).kind then (noV, 6)
 else if f.kind = 4 then (if zX3 (zXU (v.s.data.toList.take f.width.toNat)) p then (⟨4, 0, bs (zXU (v.s.data.toList.take f.width.toNat))⟩, 0) else (noV, 10))
 else if zQK f p v then (v, 0) else (noV, 10)
def zJu (f : Fld) (p : Int) (v : Val) : Val × Int := if zQr f && zQX p then (if zXb v ≠ 0 then (noV, zXb v) else zXR f p v) else (noV, 1)
def zQx (l : List Fld) (p : Int) (r : Rec) : Int := if r.v.length ≠ l.length then 10 else if (l.zip r.v).all (fun x => zQK x.1 p x.2) then 0 else 1
def zX6 (l : List Fld) (p : Int) : List Rec -> Int
 | [] => 0
 | r :: rs => if zQx l p r ≠ 0 then zQx l p r else zX6 l p rs
def zX0 (t : Tbl) : Int := if zQX t.page then (if zQT t.fields ≠ 0 then zQT t.fields else if 300 < t.recs.length then 3 else zX6 t.fields t.page t.recs) else 1
end Go.Proofs.YtcihcbfcgjepfaaGreatDoor
/- Table: values, names, fields, pages: which are right. No condition. -/
set_option maxRecDepth 100000
namespace Go.Proofs.YtcihcbfcgjepfaaGreatDoor
open Go.Sh Go.RowKit Tryz
theorem zZm (s : ByteArray) : (s.toList == (⟨#[]⟩ : ByteArray).toList) = decide (s.size = 0) := by
 rw [← beq_toListBytes, zX9]
 by_cases h : s.size = 0
 ·have : s = ⟨#[]⟩ := by
   obtain ⟨⟨l⟩⟩ := s
   cases l with
   | nil => rfl
   | cons a l => simp [ByteArray.size] at h
  simp [this]
  rfl
 ·have : s ≠ ⟨#[]⟩ := fun e => h (by rw [e]; rfl)
  simp [this, h]
theorem alB {w : World} {c : Array Value} {e : TypeId} {K : Nat -> World -> Prop} (h : ∀ w1, Pu w w1 -> w1.heap[w.heap.size]? = some (.cells c e) -> K w.heap.size w1) : alE (.cells c e) w K :=
 h _ (Pu.alloc w _) (zXj w _)
theorem cl {w : World} {r : Nat} {c : Array Value} {e : TypeId} {f : Nat × Nat} (h : w.heap[r]? = some (.cells c e f)) (o : Nat) : w.cell? ((⟨r, 0, none⟩ : Addr).add o) = c[o]? := by rw [zQf, zQs h, Nat.zero_add]
theorem cl0 {w : World} {r : Nat} {c : Array Value} {e : TypeId} {f : Nat × Nat} (h : w.heap[r]? = some (.cells c e f)) : w.cell? (⟨r, 0, none⟩ : Addr) = c[0]? := zQs h 0
theorem zQA {a b : Int} (h : (a == b) = true) : a = b := by simpa using h
theorem zQj {a b : Int} (h : (a == b) = false) : a ≠ b := by simpa using h
theorem zQ5 {a b : Int} (h : (a != b) = true) : a ≠ b := by simpa using h
theorem zQv {a b : Int} (h : (a != b) = false) : a = b := by simpa using h
theorem yZ7 (n : Int) (w : World) : Calls prog 158 #[.int .i64 n] w fun e w' => e = .returned (.bool (decide (-1000000000000000 <= n) && decide (n <= 1000000000000000))) /\ Pu w w' := by
 refine yQD _ w _ (Br.of (fun d => ?_) (fun d => ?_))
 ·exact ⟨by rw [decide_eq_true (show -1000000000000000 <= n from zQn d)]; rfl, Pu.refl w⟩
 ·exact ⟨by rw [decide_eq_false (show ¬ -1000000000000000 <= n from zQg d)]; rfl, Pu.refl w⟩
theorem yYd (n : Int) (w : World) : Calls prog 98 #[.int .i64 n] w fun e w' => e = .returned (.bool (decide (-1000000000000000 <= n) && decide (n <= 1000000000000000))) /\ Pu w w' := by
 refine yJw _ w _ (Br.of (fun d => ?_) (fun d => ?_))
 ·exact ⟨by rw [decide_eq_true (show -1000000000000000 <= n from zQn d)]; rfl, Pu.refl w⟩
 ·exact ⟨by rw [decide_eq_false (show ¬ -1000000000000000 <= n from zQg d)]; rfl, Pu.refl w⟩
theorem yYk (n : Int) (w : World) : Calls prog 188 #[.int .i64 n] w fun e w' => e = .returned (.bool (decide (0 <= n) && decide (n <= 3652059))) /\ Pu w w' := by
 refine yX2 _ w _ (Br.of (fun d => ?_) (fun d => ?_))
 ·exact ⟨by rw [decide_eq_true (show 0 <= n from zQn d)]; rfl, Pu.refl w⟩
 ·exact ⟨by rw [decide_eq_false (show ¬ 0 <= n from zQg d)]; rfl, Pu.refl w⟩
def zXz (v : Val) : Bool := okN v.kind v.n && (decide (v.kind = 4) || decide (v.s.size = 0))
theorem yZK (v : Val) (w : World) : Calls prog 152 #[.agg #[.int .i64 v.kind, .int .i64 v.n, .string v.s]] w fun e w' => e = .returned (.bool (zXz v)) /\ Pu w w' := by
 refine yQZ _ _ _ w _ ?_
 refine alB fun w1 hp hb => ?_
 have fin : (v.kind = 4 -> v.n = 0) -> (v.kind ≠ 4 -> v.s.size = 0) -> zW5 (fun e w' => e = .returned (.bool (zXz v)) /\ Pu w w') (some (⟨w.heap.size, 0, none⟩ : Addr)) v.kind [] w1 := fun h4 hs => by
  have e : zXz v = okN v.kind v.n := by
   unfold zXz
   by_cases h : v.kind = 4 <;> simp [h, hs]
  refine Br.of (fun d => ?_) (fun d => Br.of (fun d1 => ?_) (fun d1 => Br.of (fun d2 => ?_) (fun d2 => Br.of (fun d3 => ?_) (fun d3 => ?_))))
  ·have d := zQA d
   refine ⟨_, cl hb 1, by rw [e, okN, if_pos d]; rfl, hp⟩
  ·have d := zQj d
   have d1 := zQA d1
   refine ⟨_, cl hb 1, Br.of (fun d2 => ?_) (fun d2 => ⟨_, cl hb 1, ?_, hp⟩)⟩
   ·have d2 := zQA d2
    refine ⟨by rw [e, okN, if_neg d, if_pos d1, d2]; rfl, hp⟩
   ·have d2 := zQj d2
    rw [e, okN, if_neg d, if_pos d1, decide_eq_false d2]; rfl
  ·have d := zQj d
   have d1 := zQj d1
   have d2 := zQA d2
   refine ⟨_, cl hb 1, (yZ7 v.n w1).mono ?_⟩
   rintro e' w2 ⟨rfl, hp2⟩
   exact ⟨_, rfl, by rw [e, okN, if_neg d, if_neg d1, if_pos d2], hp.trans hp2⟩
  ·have d := zQj d
   have d1 := zQj d1
   have d2 := zQj d2
   have d3 := zQA d3
   refine ⟨_, cl hb 1, (yYk v.n w1).mono ?_⟩
   rintro e' w2 ⟨rfl, hp2⟩
   exact ⟨_, rfl, by rw [e, okN, if_neg d, if_neg d1, if_neg d2, if_pos d3], hp.trans hp2⟩
  ·have d := zQj d
   have d1 := zQj d1
   have d2 := zQj d2
   have d3 := zQj d3
   refine ⟨_, cl0 hb, ?_, hp⟩
   rw [e, okN, if_neg d, if_neg d1, if_neg d2, if_neg d3]
   by_cases h : v.kind = 4
   ·simp [h, h4 h]
   ·simp [h]
 have bad : zXz v = false -> (Ending.returned (Value.bool false) = Ending.returned (Value.bool (zXz v)) /\ Pu w w1) := fun h => ⟨by rw [h], hp⟩
 refine ⟨_, cl0 hb, Br.of (fun d => ⟨_, cl hb 2, ?_⟩) (fun d => ?_)⟩
 ·have d := zQ5 d
  rw [zZm]
  refine Br.of (fun d1 => ?_) (fun d1 => ⟨_, cl0 hb, Br.of (fun d2 => absurd (zQA d2) d) (fun d2 => ?_)⟩)
  ·exact bad (by simp at d1; simp [zXz, d, d1])
  ·exact ⟨_, cl0 hb, fin (fun h => absurd h d) (fun _ => by simpa using d1)⟩
 ·have d := zQv d
  refine ⟨_, cl0 hb, Br.of (fun d1 => ⟨_, cl hb 1, ?_⟩) (fun d1 => absurd d (zQj d1))⟩
  refine Br.of (fun d2 => ?_) (fun d2 => ⟨_, cl0 hb, fin (fun _ => zQv d2) (fun h => absurd d h)⟩)
  exact bad (by have := zQ5 d2; simp [zXz, okN, d, this])
theorem zXQ (v : Val) : zXb v = if 2048 < v.s.size then 3 else if zXz v then 0 else 1 := rfl
theorem yZG (v : Val) (w : World) : Calls prog 107 #[.agg #[.int .i64 v.kind, .int .i64 v.n, .string v.s]] w fun e w' => e = .returned (.int .i64 (zXb v)) /\ Pu w w' := by
 refine yXk _ _ _ w _ ?_
 refine alB fun w1 hp hb => ⟨v.s, cl hb 2, Br.of (fun d => ?_) (fun d => ?_)⟩
 ·have : 2048 < v.s.size := by have := zQn d; omega
  exact ⟨by rw [zXQ, if_pos this], hp⟩
 ·have hn : ¬ 2048 < v.s.size := by have := zQg d; omega
  refine ⟨_, cl hb 0, _, cl hb 1, _, cl hb 2, (yZK v w1).mono ?_⟩
  rintro e w2 ⟨rfl, hp2⟩
  refine ⟨_, rfl, Br.of (fun d1 => ?_) (fun d1 => ?_)⟩
  ·have d1 : zXz v = false := by simpa using d1
   exact ⟨by rw [zXQ, if_neg hn, d1]; rfl, hp.trans hp2⟩
  ·have d1 : zXz v = true := by simpa using d1
   exact ⟨by rw [zXQ, if_neg hn, d1]; rfl, hp.trans hp2⟩
theorem yKZ (v : Val) (w : World) : Calls prog 45 #[.agg #[.int .i64 v.kind, .int .i64 v.n, .string v.s]] w fun e w' => e = .returned (.int .i64 (zXb v)) /\ Pu w w' := by
 refine yZC _ _ _ w _ ?_
 refine alB fun w1 hp hb => ⟨v.s, cl hb 2, Br.of (fun d => ?_) (fun d => ?_)⟩
 ·have : 2048 < v.s.size := by have := zQn d; omega
  exact ⟨by rw [zXQ, if_pos this], hp⟩
 ·have hn : ¬ 2048 < v.s.size := by have := zQg d; omega
  have fin : ∀ {b : Bool} {w2 : World}, b = okN v.kind v.n -> Pu w1 w2 -> zWg (fun e w' => e = .returned (.int .i64 (zXb v)) /\ Pu w w') (some (⟨w.heap.size, 0, none⟩ : Addr)) b [] w2 := fun {b w2} h hp2 => by
   subst h
   have e1 : zXb v = if zXz v then 0 else 1 := by rw [zXQ, if_neg hn]
   have hb2 := hp2.blk hb
   refine Br.of (fun d1 => ?_) (fun d1 => ⟨_, cl0 hb2, Br.of (fun d2 => ⟨_, cl hb2 2, ?_⟩) (fun d2 => ?_)⟩)
   ·exact ⟨by rw [e1, zXz, show okN v.kind v.n = false by simpa using d1]; rfl, hp.trans hp2⟩
   ·have d1 : okN v.kind v.n = true := by simpa using d1
    have d2 := zQ5 d2
    rw [zZm]
    refine Br.of (fun d3 => ?_) (fun d3 => ?_)
    ·exact ⟨by simp at d3; rw [e1]; simp [zXz, d1, d2, d3], hp.trans hp2⟩
    ·exact ⟨by simp at d3; rw [e1]; simp [zXz, d1, d2, d3], hp.trans hp2⟩
   ·have d1 : okN v.kind v.n = true := by simpa using d1
    exact ⟨by rw [e1, zXz, d1, zQv d2]; rfl, hp.trans hp2⟩
  refine ⟨_, cl0 hb, Br.of (fun d0 => ⟨_, cl hb 1, fin ?_ (Pu.refl _)⟩) (fun d0 => Br.of (fun d1 => ⟨_, cl hb 1, Br.of (fun d2 => fin ?_ (Pu.refl _)) (fun d2 => ⟨_, cl hb 1, fin ?_ (Pu.refl _)⟩)⟩) (fun d1 => Br.of (fun d2 => ⟨_, cl hb 1, (yYd v.n w1).mono ?_⟩)
   (fun d2 => Br.of (fun d3 => ⟨_, cl hb 1, Br.of (fun d4 => ⟨_, cl hb 1, fin ?_ (Pu.refl _)⟩) (fun d4 => fin ?_ (Pu.refl _))⟩) (fun d3 => Br.of (fun d4 => ⟨_, cl hb 1, fin ?_ (Pu.refl _)⟩) (fun d4 => fin ?_ (Pu.refl _))))))⟩
  ·rw [okN, if_pos (zQA d0)]; rfl
  ·rw [okN, if_neg (zQj d0), if_pos (zQA d1), zQA d2]; rfl
  ·rw [okN, if_neg (zQj d0), if_pos (zQA d1), decide_eq_false (zQj d2)]; rfl
  ·rintro e' w2 ⟨rfl, hp2⟩
   exact ⟨_, rfl, fin (by rw [okN, if_neg (zQj d0), if_neg (zQj d1), if_pos (zQA d2)]) hp2⟩
  ·rw [okN, if_neg (zQj d0), if_neg (zQj d1), if_neg (zQj d2), if_pos (zQA d3), decide_eq_true (show 0 <= v.n from zQn d4)]; rfl
  ·rw [okN, if_neg (zQj d0), if_neg (zQj d1), if_neg (zQj d2), if_pos (zQA d3), decide_eq_false (show ¬ 0 <= v.n from zQg d4)]; rfl
  ·rw [okN, if_neg (zQj d0), if_neg (zQj d1), if_neg (zQj d2), if_neg (zQj d3), if_pos (zQA d4)]; rfl
  ·rw [okN, if_neg (zQj d0), if_neg (zQj d1), if_neg (zQj d2), if_neg (zQj d3), if_neg (zQj d4)]
end Go.Proofs.YtcihcbfcgjepfaaGreatDoor
/- Table: names, fields and pages: which are right. No condition. -/
namespace Go.Proofs.YtcihcbfcgjepfaaGreatDoor
open Go.Sh Go.RowKit Tryz
structure K5 where
 letter : Int
 least : Int
 most : Int
 wr : Nat
 rd : Nat
def zYA (k : K5) : Value := .agg #[.int .u8 k.letter, .int .i64 k.least, .int .i64 k.most, .func (.func k.wr) #[] #[], .func (.func k.rd) #[] #[]]
abbrev intV (n : Int) : Value := .int .i64 n
def zVR : List (Int × K5) := [(1, ⟨76, 1, 1, 177, 178⟩), (2, ⟨78, 1, 15, 179, 180⟩), (3, ⟨68, 8, 8, 181, 182⟩), (4, ⟨67, 1, 254, 183, 184⟩), (5, ⟨77, 8, 8, 185, 186⟩)]
theorem u104 : prog.underlying 186 = some (.map 3 184) := by kernel_rfl
theorem yQC : Keys prog 3 intV := yQ0 (q := .i64) (by kernel_rfl)
theorem z102 (w : World) : (zeroValue 184).run prog w = .ok (.agg #[.int .u8 0, .int .i64 0, .int .i64 0, .nilFunc, .nilFunc]) w := Tryz.zeroValue184 w
theorem yXZ (w : World) : Calls prog 150 #[] w fun e w' => ∃ b, e = .returned (.map (some b)) /\ zQ3 w' intV zYA b zVR /\ w.heap.size <= b /\ Pu w w' := by
 refine yXm w _ ?_
 refine zX8 fun w1 hw1 => ?_
 have hp : Pu w w1 := by rw [hw1]; exact Pu.alloc w _
 have hm : zQ3 w1 intV zYA w.heap.size ([] : List (Int × K5)) := by rw [hw1]; exact zQ3.new w _ _
 obtain ⟨w2, e2, h2, f2, _⟩ := hm.upd yQC u104 1 ⟨76, 1, 1, 177, 178⟩
 obtain ⟨w3, e3, h3, f3, _⟩ := h2.upd yQC u104 2 ⟨78, 1, 15, 179, 180⟩
 obtain ⟨w4, e4, h4, f4, _⟩ := h3.upd yQC u104 3 ⟨68, 8, 8, 181, 182⟩
 obtain ⟨w5, e5, h5, f5, _⟩ := h4.upd yQC u104 4 ⟨67, 1, 254, 183, 184⟩
 obtain ⟨w6, e6, h6, f6, _⟩ := h5.upd yQC u104 5 ⟨77, 8, 8, 185, 186⟩
 refine ⟨w2, e2, w3, e3, w4, e4, w5, e5, w6, e6, w.heap.size, rfl, h6, Nat.le_refl _, ?_⟩
 have n : ∀ i, i = w.heap.size -> w.heap.size <= i := fun i h => by omega
 exact ((((hp.andNew f2 n).andNew f3 n).andNew f4 n).andNew f5 n).andNew f6 n
def zQW (k : Int) : Option K5 := AL.get zVR k
theorem yJ9 {w : World} {b : Nat} (h : zQ3 w intV zYA b zVR) (k : Int) (ok : Bool) : (Instr.lookup 186 (.map (some b)) (.int .i64 k) ok).run prog w =
  .ok (if ok then .tuple #[(zQW k).elim (.agg #[.int .u8 0, .int .i64 0, .int .i64 0, .nilFunc, .nilFunc]) zYA, .bool (zQW k).isSome] else (zQW k).elim (.agg #[.int .u8 0, .int .i64 0, .int .i64 0, .nilFunc, .nilFunc]) zYA) w :=
 h.look yQC u104 (z102 w) k ok
theorem zJ4 (k : Int) : (k = 1 /\ zQW k = some ⟨76, 1, 1, 177, 178⟩) ∨ (k = 2 /\ zQW k = some ⟨78, 1, 15, 179, 180⟩) ∨ (k = 3 /\ zQW k = some ⟨68, 8, 8, 181, 182⟩) ∨ (k = 4 /\ zQW k = some ⟨67, 1, 254, 183, 184⟩) ∨ (k = 5 /\ zQW k = some ⟨77, 8, 8, 185, 186⟩) ∨ (k ≠ 1 /\ k ≠ 2 /\ k ≠ 3 /\ k ≠ 4 /\ k ≠ 5 /\ zQW k = none) := by
 by_cases h1 : k = 1
 ·subst h1; exact .inl ⟨rfl, rfl⟩
 by_cases h2 : k = 2
 ·subst h2; exact .inr (.inl ⟨rfl, rfl⟩)
 by_cases h3 : k = 3
 ·subst h3; exact .inr (.inr (.inl ⟨rfl, rfl⟩))
 by_cases h4 : k = 4
 ·subst h4; exact .inr (.inr (.inr (.inl ⟨rfl, rfl⟩)))
 by_cases h5 : k = 5
 ·subst h5; exact .inr (.inr (.inr (.inr (.inl ⟨rfl, rfl⟩))))
 ·refine .inr (.inr (.inr (.inr (.inr ⟨h1, h2, h3, h4, h5, ?_⟩))))
  simp [zQW, zVR, AL.get, h1, h2, h3, h4, h5, Ne.symm h1, Ne.symm h2, Ne.symm h3, Ne.symm h4, Ne.symm h5]
def yY5 : List UInt8 := [65, 66, 67, 68, 69, 70, 71, 72, 73, 74, 75, 76, 77, 78, 79, 80, 81, 82, 83, 84, 85, 86, 87, 88, 89, 90, 48, 49, 50, 51, 52, 53, 54, 55, 56, 57, 95]
theorem yYE (b : UInt8) : yY5.contains b = (zJI b || zVl b || decide (b.toNat = 95)) := by
 have h : ∀ n : Nat, n < 256 -> yY5.contains (UInt8.ofNat n) = (zJI (UInt8.ofNat n) || zVl (UInt8.ofNat n) || decide ((UInt8.ofNat n).toNat = 95)) := by decide +kernel
 have := h b.toNat b.toNat_lt
 rwa [UInt8.ofNat_toNat] at this
theorem zXJ {α : Type} (p : α -> Bool) : ∀ l : List α, l.dropWhile p = [] ↔ l.all p = true
 | [] => by simp
 | a :: l => by
  by_cases h : p a = true
  ·rw [List.dropWhile_cons, if_pos h, zXJ p l]; simp [h]
  ·simp [List.dropWhile, h]
theorem zXI {α : Type} (p : α -> Bool) : ∀ l : List α, (l.dropWhile p).all p = true ↔ l.all p = true
 | [] => by simp
 | a :: l => by
  by_cases h : p a = true
  ·simp only [List.dropWhile_cons, h, if_pos, List.all_cons, Bool.true_and]
   exact zXI p l
  ·simp [List.dropWhile, h]
theorem yZv (l cs : List UInt8) : Lib.trimS l cs = [] ↔ l.all (cs.contains ·) = true := by
 unfold Lib.trimS Lib.trimLeftS Lib.trimRightS
 rw [zXJ]
 have : ((l.reverse.dropWhile (cs.contains ·)).reverse).all (cs.contains ·) = (l.reverse.dropWhile (cs.contains ·)).all (cs.contains ·) := List.all_reverse
 rw [this, zXI, List.all_reverse]
theorem u110 : (prog.info? 191).map (fun i => (i.zero, i.size)) = some (some (.agg (Array.replicate 256 (.bool false))), 256) := by kernel_rfl
theorem trim_c (s : ByteArray) (hs : s.size <= 9223372036854775807) (w : World) : Calls prog 187 #[.string s, .string ⟨#[65, 66, 67, 68, 69, 70, 71, 72, 73, 74, 75, 76, 77, 78, 79, 80, 81, 82, 83, 84, 85, 86, 87, 88, 89, 90, 48, 49, 50, 51, 52, 53, 54, 55, 56, 57, 95]⟩] w
  fun e w' => e = .returned (.string ⟨(Lib.trimS s.data.toList yY5).toArray⟩) /\ Pu w w' :=
 Any.strings_Trim_laid Tryz.lays160 u110 s ⟨#[65, 66, 67, 68, 69, 70, 71, 72, 73, 74, 75, 76, 77, 78, 79, 80, 81, 82, 83, 84, 85, 86, 87, 88, 89, 90, 48, 49, 50, 51, 52, 53, 54, 55, 56, 57, 95]⟩ w hs (by decide) (ascii_of_all (by decide))
theorem zKC {s : ByteArray} {k : Nat} (h : k < s.size) : ∃ b, s[k]? = some b /\ s.data.toList[k]? = some b := by
 refine ⟨s[k], by simp [h], ?_⟩
 have : k < s.data.toList.length := by simpa using h
 rw [List.getElem?_eq_getElem this]
 rfl
theorem yKJ (s : ByteArray) (hs : s.size <= 140737488355328) (w : World) : Calls prog 151 #[.string s] w fun e w' => e = .returned (.bool (zXE s)) /\ Pu w w' := by
 refine yXL _ w _ ?_
 have no : ∀ {w2 : World}, Pu w w2 -> zXE s = false -> (Ending.returned (Value.bool false) = Ending.returned (Value.bool (zXE s)) /\ Pu w w2) := fun h1 h2 => ⟨by rw [h2], h1⟩
 rw [yJB, zZm]
 refine Br.of (fun d0 => Br.of (fun d1 => (trim_c s (by omega) w).mono ?_) (fun d1 => no (Pu.refl _) ?_)) (fun d0 => no (Pu.refl _) ?_)
 ·rintro e w2 ⟨rfl, hp2⟩
  have d0 : ¬ s.size = 0 := by simpa using d0
  have d1 : s.size <= 10 := by have := zQn d1; omega
  refine ⟨_, rfl, ?_⟩
  have e2 : ((ByteArray.mk (Lib.trimS s.data.toList yY5).toArray).toList == (⟨#[]⟩ : ByteArray).toList) = s.data.toList.all (fun b => zJI b || zVl b || decide (b.toNat = 95)) := by
   rw [zZm]
   have h1 : ((ByteArray.mk (Lib.trimS s.data.toList yY5).toArray).size = 0) ↔ s.data.toList.all (yY5.contains ·) = true := by
    rw [← yZv]; simp [ByteArray.size]
   rw [show (fun b : UInt8 => zJI b || zVl b || decide (b.toNat = 95)) = (yY5.contains ·) from funext fun b => (yYE b).symm]
   rw [Bool.eq_iff_iff, decide_eq_true_iff]; exact h1
  rw [e2]
  have en : zXE s = (s.data.toList.all (fun b => zJI b || zVl b || decide (b.toNat = 95)) && (s.data.toList.take 1).all zJI) := by
   unfold zXE; rw [decide_eq_true (show 1 <= s.size by omega), decide_eq_true d1]; simp only [Bool.true_and]
  obtain ⟨b, hb1, hb2⟩ := zKC (s := s) (k := 0) (by omega)
  have ht : s.data.toList.take 1 = [b] := by
   cases hl : s.data.toList with
   | nil => rw [hl] at hb2; simp at hb2
   | cons a r => rw [hl] at hb2; simp at hb2; simp [hb2]
  refine Br.of (fun d2 => ⟨b, by omega, hb1, Br.of (fun d3 => ⟨b, by omega, hb1, ?_, hp2⟩) (fun d3 => ?_)⟩) (fun d2 => ?_)
  ·have d3 := zQn d3
   rw [en, d2, ht]
   simp only [List.all_cons, List.all_nil, Bool.and_true, Bool.true_and, zJI]
   rw [decide_eq_true (show 65 <= b.toNat by omega)]
   simp only [Bool.true_and]
   congr 3
   exact propext (by omega)
  ·have d3 := zQg d3
   refine no hp2 ?_
   rw [en, d2, ht]
   simp only [List.all_cons, List.all_nil, Bool.and_true, Bool.true_and, zJI]
   rw [decide_eq_false (show ¬ 65 <= b.toNat by omega)]; rfl
  ·exact no hp2 (by rw [en, d2]; rfl)
 ·have := zQg d1
  unfold zXE; rw [decide_eq_false (show ¬ s.size <= 10 by omega)]; simp
 ·have : s.size = 0 := by simpa using d0
  unfold zXE; rw [this]; rfl
theorem yZs (b : UInt8) (w : World) : Calls prog 148 #[.int .u8 ((b.toNat : Nat) : Int)] w fun e w' => e = .returned (.bool (zVl b)) /\ Pu w w' := by
 refine yXl _ w _ (Br.of (fun d => ?_) (fun d => ?_))
 ·refine ⟨?_, Pu.refl w⟩
  unfold zVl; have := zQn d; rw [decide_eq_true (show 48 <= b.toNat by omega), Bool.true_and]
  congr 2; simp only [decide_eq_decide]; omega
 ·refine ⟨?_, Pu.refl w⟩
  unfold zVl; have := zQg d; rw [decide_eq_false (show ¬ 48 <= b.toNat by omega)]; rfl
theorem zZ1 {α : Type} (p : α -> Bool) {l : List α} {k : Nat} {x : α} (h : l[k]? = some x) : (l.take (k + 1)).all p = ((l.take k).all p && p x) := by
 rw [zQQ h, List.all_append]; simp
theorem yJW (s : ByteArray) (w : World) : Calls prog 97 #[.string s] w fun e w' => e = .returned (.bool (zXE s)) /\ Pu w w' := by
 refine yZF _ w _ (Br.of (fun d0 => ⟨?_, Pu.refl _⟩) (fun d0 => Br.of (fun d1 => ⟨?_, Pu.refl _⟩) (fun d1 => ?_)))
 ·have := zQn d0
  unfold zXE; rw [decide_eq_false (show ¬ 1 <= s.size by omega)]; rfl
 ·have := zQn d1
  unfold zXE; rw [decide_eq_false (show ¬ s.size <= 10 by omega)]; simp
 have d0 := zQg d0
 have d1 := zQg d1
 have en : zXE s = (s.data.toList.all (fun b => zJI b || zVl b || decide (b.toNat = 95)) && (s.data.toList.take 1).all zJI) := by
  unfold zXE; rw [decide_eq_true (show 1 <= s.size by omega), decide_eq_true (show s.size <= 10 by omega)]; simp only [Bool.true_and]
 refine zQ8 s.size (fun k t w' => t = (k : Int) /\ Pu w w' /\ (s.data.toList.take k).all (fun b => zJI b || zVl b || decide (b.toNat = 95)) = true /\ ((s.data.toList.take k).take 1).all zJI = true) ⟨rfl, Pu.refl _, rfl, rfl⟩ ?_
 rintro k J t w2 hk ⟨ht, hp2, ha, hf⟩ hJ
 obtain rfl : t = (k : Int) := ht
 refine Br.of (fun d2 => ?_) (fun d2 => ?_)
 ·have hks : k < s.size := by have := zQn d2; omega
  obtain ⟨b, hb1, hb2⟩ := zKC hks
  have hu := b.toNat_lt
  have go : ∀ {w3 : World}, Pu w2 w3 -> (zJI b || zVl b || decide (b.toNat = 95)) = true -> (k = 0 -> zJI b = true) -> zWP (fun e w' => e = .returned (.bool (zXE s)) /\ Pu w w') J s (k : Int) [] w3 := fun {w3} hp3 h1 h2 => by
   show J (IntKind.i64.wrap ((k : Int) + 1)) w3
   rw [zQe (by omega) (by omega)]
   refine hJ _ _ hks ⟨by omega, hp2.trans hp3, ?_, ?_⟩
   ·rw [zZ1 _ hb2, ha, h1]; rfl
   ·by_cases h0 : k = 0
    ·subst h0; rw [zQQ hb2]; simp [h2 rfl]
    ·have : ((s.data.toList.take (k + 1)).take 1) = (s.data.toList.take k).take 1 := by rw [List.take_take, List.take_take]; congr 1; omega
     rw [this]; exact hf
  have no : ∀ {w3 : World}, Pu w2 w3 -> ((zJI b || zVl b || decide (b.toNat = 95)) = false ∨ (k = 0 /\ zJI b = false)) -> (Ending.returned (Value.bool false) = Ending.returned (Value.bool (zXE s)) /\ Pu w w3) := fun {w3} hp3 h => by
   refine ⟨?_, hp2.trans hp3⟩
   have hm : b ∈ s.data.toList := List.mem_of_getElem? hb2
   rcases h with h | ⟨h0, h⟩
   ·have : s.data.toList.all (fun b => zJI b || zVl b || decide (b.toNat = 95)) = false := by
     rw [List.all_eq_false]; exact ⟨b, hm, by rw [h]; simp⟩
    rw [en, this]; rfl
   ·subst h0
    have : (s.data.toList.take 1).all zJI = false := by rw [zQQ hb2]; simp [h]
    rw [en, this]; simp
  refine ⟨b, by omega, by rw [zZa]; exact hb1, ?_⟩
  have tail : zJI b = false -> Br ((k : Int) == 0) (Ending.returned (Value.bool false) = Ending.returned (Value.bool (zXE s)) /\ Pu w w2) (Br (((b.toNat : Nat) : Int) != 95) (Calls prog 148 #[.int .u8 ((b.toNat : Nat) : Int)] w2 fun e w3 => ∃ b39 : Bool, e = .returned (.bool b39) /\ Br (!b39) (Ending.returned (Value.bool false) = Ending.returned (Value.bool (zXE s)) /\ Pu w w3) (zWP (fun e w' => e = .returned (.bool (zXE s)) /\ Pu w w') J s (k : Int) [] w3)) (zWP (fun e w' => e = .returned (.bool (zXE s)) /\ Pu w w') J s (k : Int) [] w2)) := fun hc => by
   refine Br.of (fun d3 => no (Pu.refl _) (.inr ⟨by have := zQA d3; omega, hc⟩)) (fun d3 => Br.of (fun d4 => (yZs b w2).mono ?_) (fun d4 => go (Pu.refl _) ?_ (fun h => absurd (by omega) (zQj d3))))
   ·rintro e w3 ⟨rfl, hp3⟩
    refine ⟨_, rfl, Br.of (fun d5 => no hp3 (.inl ?_)) (fun d5 => go hp3 ?_ (fun h => absurd (by omega) (zQj d3)))⟩
    ·have d5 : zVl b = false := by simpa using d5
     have d4 := zQ5 d4
     rw [hc, d5, decide_eq_false (by omega)]; rfl
    ·have d5 : zVl b = true := by simpa using d5
     rw [d5]; simp
   ·have := zQv d4
    rw [decide_eq_true (show b.toNat = 95 by omega)]; simp
  refine Br.of (fun d3 => Br.of (fun d4 => ?_) (fun d4 => go (Pu.refl _) ?_ (fun _ => ?_))) (fun d3 => ?_)
  ·refine tail ?_
   have d4 : ¬ ((b.toNat : Nat) : Int) <= 90 := by simpa using d4
   unfold zJI; rw [decide_eq_false (show ¬ b.toNat <= 90 by omega)]; simp
  ·have d3 := zQn d3
   have d4 : ((b.toNat : Nat) : Int) <= 90 := by simpa using d4
   unfold zJI; rw [decide_eq_true (show b.toNat <= 90 by omega), decide_eq_true (show 65 <= b.toNat by omega)]; rfl
  ·have d3 := zQn d3
   have d4 : ((b.toNat : Nat) : Int) <= 90 := by simpa using d4
   unfold zJI; rw [decide_eq_true (show b.toNat <= 90 by omega), decide_eq_true (show 65 <= b.toNat by omega)]; rfl
  ·refine tail ?_
   have d3 := zQg d3
   unfold zJI; rw [decide_eq_false (show ¬ 65 <= b.toNat by omega)]; simp
 ·have hk2 : k = s.size := by have := zQg d2; omega
  refine ⟨?_, hp2⟩
  rw [hk2, show s.size = s.data.toList.length by simp, List.take_length] at ha hf
  rw [en, ha, hf]; rfl
end Go.Proofs.YtcihcbfcgjepfaaGreatDoor
/- Table: fields and pages: which are right; empty values. No condition. -/
namespace Go.Proofs.YtcihcbfcgjepfaaGreatDoor
open Go.Sh Go.RowKit Tryz
theorem zZ7 {p q : Prop} [Decidable p] [Decidable q] (h : p ↔ q) : decide p = decide q := by simp [h]
abbrev yXP (f : Fld) : Value := .agg #[.string f.name, .int .i64 f.kind, .int .i64 f.width, .bool f.null]
abbrev zKq (v : Val) : Value := .agg #[.int .i64 v.kind, .int .i64 v.n, .string v.s]
theorem yQe (n : Int) (w : World) : Calls prog 92 #[.int .i64 n] w fun e w' => e = .returned (.bool (zQX n)) /\ Pu w w' := by
 refine yZ9 _ w _ (Br.of (fun d => ?_) (fun d => ?_))
 ·exact ⟨by rw [zQX, decide_eq_true (show 0 <= n from zQn d)]; rfl, Pu.refl w⟩
 ·exact ⟨by rw [zQX, decide_eq_false (show ¬ 0 <= n from zQg d)]; rfl, Pu.refl w⟩
theorem yZW (n : Int) (w : World) : Calls prog 41 #[.int .i64 n] w fun e w' => e = .returned (.bool (zQX n)) /\ Pu w w' := by
 refine yZH _ w _ (Br.of (fun d => ?_) (fun d => ?_))
 ·exact ⟨by rw [zQX, decide_eq_true (show 0 <= n from zQn d)]; rfl, Pu.refl w⟩
 ·exact ⟨by rw [zQX, decide_eq_false (show ¬ 0 <= n from zQg d)]; rfl, Pu.refl w⟩
theorem yZr (k : Int) : ∃ n a b x y, (zQW k).elim (.agg #[.int .u8 0, .int .i64 0, .int .i64 0, .nilFunc, .nilFunc]) zYA = .agg #[.int .u8 n, .int .i64 a, .int .i64 b, x, y] /\ zYb x = true /\ zYb y = true /\
  (zQW k).isSome = decide (k = 1 ∨ k = 2 ∨ k = 3 ∨ k = 4 ∨ k = 5) /\ ((zQW k).isSome = true -> ∀ m : Int, zKH k m = (decide (a <= m) && decide (m <= b))) := by
 rcases zJ4 k with ⟨rfl, h⟩ | ⟨rfl, h⟩ | ⟨rfl, h⟩ | ⟨rfl, h⟩ | ⟨rfl, h⟩ | ⟨h1, h2, h3, h4, h5, h⟩
 ·rw [h]; refine ⟨_, _, _, _, _, rfl, rfl, rfl, rfl, fun _ m => ?_⟩
  show decide (m = 1) = (decide (1 <= m) && decide (m <= 1))
  rw [← Bool.decide_and]; exact zZ7 (by omega)
 ·rw [h]; exact ⟨_, _, _, _, _, rfl, rfl, rfl, rfl, fun _ m => rfl⟩
 ·rw [h]; refine ⟨_, _, _, _, _, rfl, rfl, rfl, rfl, fun _ m => ?_⟩
  show decide (m = 8) = (decide (8 <= m) && decide (m <= 8))
  rw [← Bool.decide_and]; exact zZ7 (by omega)
 ·rw [h]; exact ⟨_, _, _, _, _, rfl, rfl, rfl, rfl, fun _ m => rfl⟩
 ·rw [h]; refine ⟨_, _, _, _, _, rfl, rfl, rfl, rfl, fun _ m => ?_⟩
  show decide (m = 8) = (decide (8 <= m) && decide (m <= 8))
  rw [← Bool.decide_and]; exact zZ7 (by omega)
 ·rw [h]; exact ⟨_, _, _, _, _, rfl, rfl, rfl, by simp [h1, h2, h3, h4, h5], fun hn => by simp at hn⟩
theorem yXq {k : Int} (h : (zQW k).isSome = false) (m : Int) : zKH k m = false := by
 rcases zJ4 k with ⟨rfl, h1⟩ | ⟨rfl, h1⟩ | ⟨rfl, h1⟩ | ⟨rfl, h1⟩ | ⟨rfl, h1⟩ | ⟨h1, h2, h3, h4, h5, _⟩
 ·rw [h1] at h; simp at h
 ·rw [h1] at h; simp at h
 ·rw [h1] at h; simp at h
 ·rw [h1] at h; simp at h
 ·rw [h1] at h; simp at h
 ·unfold zKH; rw [if_neg h1, if_neg h2, if_neg h3, if_neg h4, if_neg h5]
theorem ones5 {n a b : Int} {x y : Value} (hx : zYb x = true) (hy : zYb y = true) : (#[.int .u8 n, .int .i64 a, .int .i64 b, x, y] : Array Value).toList.all zYb = true := by
 show ([.int .u8 n, .int .i64 a, .int .i64 b, x, y] : List Value).all zYb = true
 simp only [List.all_cons, List.all_nil, hx, hy]; rfl
theorem s102 : zXc prog 184 = 5 := by kernel_rfl
theorem s25 : zXc prog 28 = 3 := by kernel_rfl
theorem s23 : zXc prog 38 = 4 := by kernel_rfl
theorem zVz (f : Fld) (hs : f.name.size <= 140737488355328) (w : World) : Calls prog 106 #[yXP f] w fun e w' => e = .returned (.bool (zQr f)) /\ Pu w w' := by
 refine yXB _ _ _ _ w _ ?_
 refine alB fun w1 hp1 hb1 => zQl fun w2 hp2 hh2 => ?_
 have hp12 := hp1.trans hp2
 refine ⟨fun w' => Pu w2 w', Pu.refl _, f.kind, fun w' hw' => hw'.cell (hp2.cell (cl hb1 1)), ?_⟩
 obtain ⟨n, a, b, x, y, hk, hx, hy, hsome, hkw⟩ := yZr f.kind
 have main : ∀ {w3 w4 : World} {r : Nat}, Pu w1 w3 -> w3.heap[r]? = some (.cells #[.int .u8 n, .int .i64 a, .int .i64 b, x, y] 184) -> Pu w w3 ->
   yQb (fun e w' => e = .returned (.bool (zQr f)) /\ Pu w w') (some (⟨w.heap.size, 0, none⟩ : Addr)) (some (⟨r, 0, none⟩ : Addr)) (zQW f.kind).isSome [] w3 := fun {w3 w4 r} q1 q2 q3 => by
  have no : ∀ {w5 : World}, Pu w w5 -> zQr f = false -> (Ending.returned (Value.bool false) = Ending.returned (Value.bool (zQr f)) /\ Pu w w5) := fun h1 h2 => ⟨by rw [h2], h1⟩
  have hb3 := q1.blk hb1
  refine Br.of (fun d => ⟨f.name, cl0 hb3, (yKJ f.name hs w3).mono ?_⟩) (fun d => no q3 ?_)
  ·rintro e w5 ⟨rfl, hp5⟩
   have hb5 := hp5.blk hb3
   have hr5 := hp5.blk q2
   refine ⟨_, rfl, Br.of (fun d1 => ⟨_, cl hb5 2, _, cl hr5 1, Br.of (fun d2 => ⟨_, cl hb5 2, _, cl hr5 2, ?_, q3.trans hp5⟩) (fun d2 => no (q3.trans hp5) ?_)⟩) (fun d1 => no (q3.trans hp5) ?_)⟩
   ·unfold zQr; rw [d1, hkw d, decide_eq_true (show a <= f.width from zQn d2)]; rfl
   ·unfold zQr; rw [d1, hkw d, decide_eq_false (show ¬ a <= f.width from zQg d2)]; rfl
   ·unfold zQr; rw [d1]; rfl
  ·unfold zQr; rw [yXq d]; simp
 have hlook : ∀ {m : Nat} {w' : World}, zQ3 w' intV zYA m zVR -> (Instr.lookup 186 (.map (some m)) (.int .i64 f.kind) true).run prog w' = .ok (.tuple #[.agg #[.int .u8 n, .int .i64 a, .int .i64 b, x, y], .bool (zQW f.kind).isSome]) w' := fun {m w'} hm => by
  rw [yJ9 hm, hk]; rfl
 constructor
 ·refine (yXZ w2).mono ?_
  rintro e w3 ⟨m, rfl, hm, _, hp3⟩
  refine ⟨some m, rfl, fun w' => Pu w3 w', Pu.refl _, fun u hu => hp3.trans hu, n, a, b, x, y, (zQW f.kind).isSome, fun w' hw' => hlook (hm.pu hw'), ?_⟩
  refine alB fun w4 hp4 hb4 => ⟨fun w' => Pu w3 w', hp4, fun u hu => hu, ?_⟩
  refine zQy hb4 s102.symm rfl (ones5 hx hy) fun w5 hb5 hf5 hs5 => ?_
  have hp35 : Pu w3 w5 := hp4.andNew hf5 fun i hi => by omega
  exact main (w4 := w4) ((hp2.trans hp3).trans hp35) hb5 (hp12.trans (hp3.trans hp35))
 ·refine alB fun w4 hp4 hb4 => ⟨fun w' => Pu w4 w', Pu.refl _, fun u hu => hp4.trans hu, ?_⟩
  refine (yXZ w4).mono ?_
  rintro e w3 ⟨m, rfl, hm, _, hp3⟩
  refine ⟨some m, rfl, fun w' => Pu w3 w', Pu.refl _, fun u hu => hp3.trans hu, n, a, b, x, y, (zQW f.kind).isSome, fun w' hw' => hlook (hm.pu hw'), ?_⟩
  refine zQy (hp3.blk hb4) s102.symm rfl (ones5 hx hy) fun w5 hb5 hf5 hs5 => ?_
  have hp25 : Pu w2 w5 := (hp4.trans hp3).andNew hf5 fun i hi => by omega
  exact main (w4 := w4) (hp2.trans hp25) hb5 (hp12.trans hp25)
theorem yXK (f : Fld) (w : World) : Calls prog 44 #[yXP f] w fun e w' => e = .returned (.bool (zQr f)) /\ Pu w w' := by
 refine yZ0 _ _ _ _ w _ ?_
 refine alB fun w1 hp1 hb1 => ⟨_, cl0 hb1, (yJW f.name w1).mono ?_⟩
 rintro e w2 ⟨rfl, hp2⟩
 have hb2 := hp2.blk hb1
 have q2 := hp1.trans hp2
 have out : ∀ {b : Bool}, b = zQr f -> (Ending.returned (Value.bool b) = Ending.returned (Value.bool (zQr f)) /\ Pu w w2) := fun h => ⟨by rw [h], q2⟩
 have two : ∀ {lo hi : Int}, (zXE f.name = true -> zKH f.kind f.width = (decide (lo <= f.width) && decide (f.width <= hi))) -> zXE f.name = true ->
   Br (decide (f.width >= lo)) (∃ n : Int, w2.cell? ((⟨w.heap.size, 0, none⟩ : Addr).add 2) = some (.int .i64 n) /\ (Ending.returned (Value.bool (decide (n <= hi))) = Ending.returned (Value.bool (zQr f)) /\ Pu w w2)) (Ending.returned (Value.bool false) = Ending.returned (Value.bool (zQr f)) /\ Pu w w2) := fun {lo hi} h h0 =>
  Br.of (fun d => ⟨_, cl hb2 2, out (by unfold zQr; rw [h0, h h0, decide_eq_true (show lo <= f.width from zQn d)]; rfl)⟩) (fun d => out (by unfold zQr; rw [h0, h h0, decide_eq_false (show ¬ lo <= f.width from zQg d)]; rfl))
 refine ⟨_, rfl, Br.of (fun d => out ?_) (fun d => ?_)⟩
 ·have : zXE f.name = false := by simpa using d
  unfold zQr; rw [this]; rfl
 have hn : zXE f.name = true := by simpa using d
 have ef : zQr f = zKH f.kind f.width := by unfold zQr; rw [hn]; rfl
 refine ⟨_, cl hb2 1, Br.of (fun d1 => ⟨_, cl hb2 2, out ?_⟩) (fun d1 => Br.of (fun d2 => ⟨_, cl hb2 2, two ?_ hn⟩) (fun d2 => Br.of (fun d3 => Br.of (fun d4 => ⟨_, cl hb2 2, out ?_⟩) (fun d4 => ?_)) (fun d3 => Br.of (fun d4 => ⟨_, cl hb2 2, out ?_⟩) (fun d4 => Br.of (fun d5 => ⟨_, cl hb2 2, two ?_ hn⟩) (fun d5 => out ?_)))))⟩
 ·rw [ef, zQA d1]; show (f.width == 1) = decide (f.width = 1); simp [BEq.beq]
 ·intro _; rw [zQA d2]; rfl
 ·rw [ef, zQA d3]; show (f.width == 8) = decide (f.width = 8); simp [BEq.beq]
 ·exact absurd (zQA d3) (zQj d4)
 ·rw [ef, zQA d4]; show (f.width == 8) = decide (f.width = 8); simp [BEq.beq]
 ·intro _; rw [zQA d5]; rfl
 ·rw [ef]; unfold zKH; rw [if_neg (zQj d1), if_neg (zQj d2), if_neg (zQj d3), if_neg (zQj d5), if_neg (zQj d4)]
theorem yYO (f : Fld) (w : World) : Calls prog 108 #[yXP f] w fun e w' => e = .returned (zKq (zXY f)) /\ Pu w w' := by
 refine yQ5 _ _ _ _ w _ ?_
 refine alB fun w1 hp1 hb1 => alB fun w2 hp2 hb2 => ⟨_, cl (hp2.blk hb1) 1, Br.of (fun d => ?_) (fun d => ⟨_, cl (hp2.blk hb1) 1, ?_⟩)⟩
 ·refine zQy hb2 s25.symm rfl rfl fun w3 hb3 hf3 hs3 => ?_
  have hp13 : Pu w w3 := hp1.trans (hp2.andNew hf3 fun i hi => by omega)
  exact ⟨_, cl hb3 0, _, cl hb3 1, _, cl hb3 2, by unfold zXY; rw [if_pos (zQA d)], hp13⟩
 ·refine zQy hb2 s25.symm rfl rfl fun w3 hb3 hf3 hs3 => ?_
  have hp13 : Pu w w3 := hp1.trans (hp2.andNew hf3 fun i hi => by omega)
  exact ⟨_, cl hb3 0, _, cl hb3 1, _, cl hb3 2, by unfold zXY; rw [if_neg (zQj d)], hp13⟩
end Go.Proofs.YtcihcbfcgjepfaaGreatDoor
/- Table: numbers in digits; blanks at a text's end. No condition. -/
namespace Go.Proofs.YtcihcbfcgjepfaaGreatDoor
open Go.Sh Go.RowKit Tryz
theorem zZr (a b : List UInt8) : bs a ++ bs b = bs (a ++ b) := zXA (by simp [bs])
theorem zXm (s : ByteArray) (i j : Nat) : (s.extract i j).data.toList = (s.data.toList.take j).drop i := by
 rw [ByteArray.data_extract, Array.toList_extract, List.extract_eq_take_drop, List.drop_take]
theorem zK0 : ∀ k : Nat, k < 10 -> (⟨#[48, 49, 50, 51, 52, 53, 54, 55, 56, 57]⟩ : ByteArray).extract k (k + 1) = bs [UInt8.ofNat (48 + k)] := by
 intro k hk
 apply zXA
 rw [zXm, zJp]
 match k, hk with
 | 0, _ => rfl
 | 1, _ => rfl
 | 2, _ => rfl
 | 3, _ => rfl
 | 4, _ => rfl
 | 5, _ => rfl
 | 6, _ => rfl
 | 7, _ => rfl
 | 8, _ => rfl
 | 9, _ => rfl
theorem zXS {n : Nat} (h : n < 10) : zZ8 n = [UInt8.ofNat (48 + n)] := by rw [zZ8, dif_pos h]
theorem zZg {n : Nat} (h : ¬ n < 10) : zZ8 n = zZ8 (n / 10) ++ [UInt8.ofNat (48 + n % 10)] := by rw [zZ8, dif_neg h]
theorem zZX (n : Nat) : (zZ8 n).length <= n + 1 := by
 induction n using Nat.strongRecOn with
 | _ n ih =>
  by_cases h : n < 10
  ·rw [zXS h]; simp
  ·rw [zZg h]
   have := ih (n / 10) (by omega)
   simp only [List.length_append, List.length_singleton]; omega
theorem yQo (n : Nat) : 1 <= (zZ8 n).length := by
 by_cases h : n < 10
 ·rw [zXS h]; simp
 ·rw [zZg h]; simp
theorem zWy (n : Nat) : ∀ b ∈ zZ8 n, 48 <= b.toNat /\ b.toNat <= 57 := by
 induction n using Nat.strongRecOn with
 | _ n ih =>
  have one : ∀ k, k < 10 -> 48 <= (UInt8.ofNat (48 + k)).toNat /\ (UInt8.ofNat (48 + k)).toNat <= 57 := fun k hk => by simp; omega
  by_cases h : n < 10
  ·rw [zXS h]; intro b hb; simp only [List.mem_singleton] at hb; subst hb; exact one n h
  ·rw [zZg h]; intro b hb
   rcases List.mem_append.1 hb with hb | hb
   ·exact ih (n / 10) (by omega) b hb
   ·simp only [List.mem_singleton] at hb; subst hb; exact one _ (by omega)
theorem yQs : ∀ (n : Nat), n <= 4611686018427387904 -> ∀ w : World, Calls prog 159 #[.int .i64 (n : Int)] w fun e w' => e = .returned (.string (bs (zZ8 n))) /\ Pu w w' := by
 intro n
 induction n using Nat.strongRecOn with
 | _ n ih =>
  intro hn w
  refine zWs _ w _ (Br.of (fun d => absurd (zQn d) (by omega)) (fun d => Br.of (fun d1 => ?_) (fun d1 => zQl fun w4 hp4 _ => ?_)))
  ·have d1 : n < 10 := by have := zQn d1; omega
   rw [zQe (by omega) (by omega)]
   refine ⟨by omega, ?_, by omega, by omega, ?_, Pu.refl w⟩
   ·show _ <= 10; omega
   ·rw [zZa, show ((n : Int) + 1).toNat = n + 1 by omega, zK0 n d1, zXS d1]
  ·have d1 : ¬ n < 10 := by have := zQg d1; omega
   have e1 : ((n : Int).tmod 10) = ((n % 10 : Nat) : Int) := by rw [Int.tmod_eq_emod_of_nonneg (by omega)]; omega
   have e2 : ((n : Int).tdiv 10) = ((n / 10 : Nat) : Int) := by rw [Int.tdiv_eq_ediv_of_nonneg (by omega)]; omega
   rw [e1, e2, zQe (by omega) (by omega), zQe (by omega) (by omega)]
   have e3 : (((n % 10 : Nat) : Int) + 1).toNat = n % 10 + 1 := by omega
   rw [e3, zZa, zK0 (n % 10) (by omega)]
   refine ⟨rfl, by omega, rfl, by omega, rfl, by omega, by omega, ?_, by omega, by omega, (ih (n / 10) (by omega) (by omega) w4).mono ?_⟩
   ·show _ <= 10; omega
   rintro e w5 ⟨rfl, hp5⟩
   refine ⟨_, rfl, ?_, ?_, hp4.trans hp5⟩
   ·rw [zXu, zXu]; have := zZX (n / 10); simp only [List.length_singleton]; omega
   ·rw [zZr, zZg d1]
theorem zWM (n : Nat) : zJK (n : Int) = zZ8 n := by unfold zJK; rw [if_neg (by omega)]; rfl
theorem zKx {n : Int} (h : n < 0) : zJK n = 45 :: zZ8 n.natAbs := by unfold zJK; rw [if_pos h]
theorem dec_c {n : Int} (h1 : -4611686018427387904 <= n) (h2 : n <= 4611686018427387904) (w : World) : Calls prog 159 #[.int .i64 n] w fun e w' => e = .returned (.string (bs (zJK n))) /\ Pu w w' := by
 by_cases h : n < 0
 ·refine zWs _ w _ (Br.of (fun d => ?_) (fun d => absurd h (zQg d)))
  rw [zQe (by omega) (by omega)]
  have e : (0 - n : Int) = ((n.natAbs : Nat) : Int) := by omega
  rw [e]
  refine (yQs n.natAbs (by omega) w).mono ?_
  rintro e w2 ⟨rfl, hp⟩
  refine ⟨_, rfl, ?_, ?_, hp⟩
  ·have e4 := zXu (zZ8 n.natAbs); have := zZX n.natAbs; show (((1 + (bs (zZ8 n.natAbs)).size : Nat)) : Int) <= _; omega
  ·rw [zKx h]; exact congrArg (fun x => Ending.returned (Value.string x)) (zZr [45] _)
 ·obtain ⟨k, rfl⟩ : ∃ k : Nat, n = k := ⟨n.toNat, by omega⟩
  rw [zWM]
  exact yQs k (by omega) w
theorem zKd : ∀ (n : Nat), n <= 9223372036854775807 -> ∀ w : World, Calls prog 147 #[.int .i64 (n : Int)] w fun e w' => e = .returned (.string (bs (zZ8 n))) /\ Pu w w' := by
 intro n
 induction n using Nat.strongRecOn with
 | _ n ih =>
  intro hn w
  refine zWt _ w _ (Br.of (fun d => absurd (zQn d) (by omega)) (fun d => Br.of (fun d1 => ?_) (fun d1 => ?_)))
  ·have d1 : n < 10 := by have := zQn d1; omega
   rw [zQe (by omega) (by omega)]
   refine ⟨by omega, ?_, by omega, by omega, ?_, Pu.refl w⟩
   ·show _ <= 10; omega
   ·rw [zZa, show ((n : Int) + 1).toNat = n + 1 by omega, zK0 n d1, zXS d1]
  ·have d1 : ¬ n < 10 := by have := zQg d1; omega
   have e1 : ((n : Int).tmod 10) = ((n % 10 : Nat) : Int) := by rw [Int.tmod_eq_emod_of_nonneg (by omega)]; omega
   have e2 : ((n : Int).tdiv 10) = ((n / 10 : Nat) : Int) := by rw [Int.tdiv_eq_ediv_of_nonneg (by omega)]; omega
   rw [e1, e2, zQe (by omega) (by omega)]
   refine ⟨rfl, by omega, (ih (n / 10) (by omega) (by omega) w).mono ?_⟩
   rintro e w5 ⟨rfl, hp5⟩
   refine ⟨_, rfl, rfl, by omega, (ih (n % 10) (by omega) (by omega) w5).mono ?_⟩
   rintro e w6 ⟨rfl, hp6⟩
   refine ⟨_, rfl, ?_, ?_, hp5.trans hp6⟩
   ·rw [zXu, zXu]; have := zZX (n / 10); have := zZX (n % 10); omega
   ·rw [zZr, zZg d1, zXS (show n % 10 < 10 by omega)]
theorem yJ1 : zJK (-9223372036854775808) = [45, 57, 50, 50, 51, 51, 55, 50, 48, 51, 54, 56, 53, 52, 55, 55, 53, 56, 48, 56] := by decide +kernel
theorem yKj {n : Int} (hn : zWE n) (w : World) : Calls prog 147 #[.int .i64 n] w fun e w' => e = .returned (.string (bs (zJK n))) /\ Pu w w' := by
 obtain ⟨h1, h2⟩ := hn
 by_cases h : n < 0
 ·refine zWt _ w _ (Br.of (fun d => Br.of (fun d1 => ?_) (fun d1 => ?_)) (fun d => absurd h (zQg d)))
  ·rw [zQA d1, yJ1]; exact ⟨rfl, Pu.refl w⟩
  have d1 := zQj d1
  rw [zQe (by omega) (by omega)]
  have e : (0 - n : Int) = ((n.natAbs : Nat) : Int) := by omega
  rw [e]
  refine (zKd n.natAbs (by omega) w).mono ?_
  rintro e w2 ⟨rfl, hp⟩
  have hl : (zZ8 n.natAbs).length < 9223372036854775807 := by
   by_cases h10 : n.natAbs < 10
   ·rw [zXS h10]; simp
   ·rw [zZg h10]; have := zZX (n.natAbs / 10); simp only [List.length_append, List.length_singleton]; omega
  refine ⟨_, rfl, ?_, ?_, hp⟩
  ·have e4 := zXu (zZ8 n.natAbs); show (((1 + (bs (zZ8 n.natAbs)).size : Nat)) : Int) <= _; omega
  ·rw [zKx h]; exact congrArg (fun x => Ending.returned (Value.string x)) (zZr [45] _)
 ·obtain ⟨k, rfl⟩ : ∃ k : Nat, n = k := ⟨n.toNat, by omega⟩
  rw [zWM]
  exact zKd k (by omega) w
theorem zKF (b : UInt8) : ∀ n, Lib.repeatL [b] n = List.replicate n b
 | 0 => rfl
 | n + 1 => by rw [List.replicate_succ, ← zKF b n]; rfl
theorem yQp (b : UInt8) (n : Nat) (hn : n <= 140737488355328) (w : World) : Calls prog 160 #[.string ⟨#[b]⟩, .int .i64 (n : Int)] w fun e w' => e = .returned (.string (bs (List.replicate n b))) /\ Pu w w' := by
 have h := Any.strings_Repeat Tryz.lays105 Tryz.Builder_Extra_105 ⟨#[b]⟩ n w (by omega) (by show 1 * n <= _; omega)
 have e : Lib.repeatL (⟨#[b]⟩ : ByteArray).data.toList n = List.replicate n b := zKF b n
 rw [e] at h
 exact h
theorem zYz (s : ByteArray) (hs : s.size <= 140737488355328) (w : World) : Calls prog 109 #[.string s, .string ⟨#[32]⟩] w fun e w' => e = .returned (.string (bs (zXU s.data.toList))) /\ Pu w w' :=
 (Any.strings_TrimRight_one Tryz.lays162 s 32 (by decide) w (by omega)).mono fun e w' ⟨h1, h2⟩ => ⟨h1, h2 ▸ Pu.refl _⟩
theorem zKO (l : List UInt8) (b : UInt8) : zXU (l ++ [b]) = if b = 32 then zXU l else l ++ [b] := by
 unfold zXU
 rw [List.reverse_append, List.reverse_singleton, List.singleton_append, List.dropWhile_cons]
 by_cases h : b = 32
 ·simp [h]
 ·simp [h]
theorem yYP (s : ByteArray) (hs : s.size <= 9223372036854775807) (w : World) : Calls prog 99 #[.string s] w fun e w' => e = .returned (.string (bs (zXU s.data.toList))) /\ Pu w w' := by
 refine yJm _ w _ ?_
 refine zQ8 s.size (fun k t w' => t = ((s.size - k : Nat) : Int) /\ Pu w w' /\ zXU s.data.toList = zXU (s.data.toList.take (s.size - k))) ⟨rfl, Pu.refl _, by rw [Nat.sub_zero, show s.size = s.data.toList.length by simp, List.take_length]⟩ ?_
 rintro k J t w2 hk ⟨ht, hp, hb⟩ hJ
 obtain rfl : t = ((s.size - k : Nat) : Int) := ht
 have fin : zXU (s.data.toList.take (s.size - k)) = s.data.toList.take (s.size - k) -> yJ4 (fun e w' => e = .returned (.string (bs (zXU s.data.toList))) /\ Pu w w') s ((s.size - k : Nat) : Int) [] w2 := fun h => by
  refine ⟨by omega, by rw [zZa]; omega, by omega, ?_, hp⟩
  rw [zZa, hb, h]
  congr 2
  exact zXA (by rw [zXm, zJp]; rfl)
 refine Br.of (fun d => ?_) (fun d => fin ?_)
 ·have hk2 : k < s.size := by have := zQn d; omega
  rw [yJ4] at fin
  have e1 : ((s.size - k : Nat) : Int) - 1 = ((s.size - (k + 1) : Nat) : Int) := by omega
  rw [e1, zQe (by omega) (by omega)]
  obtain ⟨b, hb1, hb2⟩ := zKC (s := s) (k := s.size - (k + 1)) (by omega)
  have et : s.data.toList.take (s.size - k) = s.data.toList.take (s.size - (k + 1)) ++ [b] := by
   rw [show s.size - k = s.size - (k + 1) + 1 by omega, zQQ hb2]
  refine ⟨b, by omega, by rw [zZa]; exact hb1, Br.of (fun d1 => hJ _ _ hk2 ⟨rfl, hp, ?_⟩) (fun d1 => fin ?_)⟩
  ·have : b = 32 := by have := zQA d1; apply UInt8.toNat_inj.1; show b.toNat = 32; omega
   rw [hb, et, zKO, if_pos this]
  ·have : ¬ b = 32 := fun h => zQj d1 (by rw [h]; rfl)
   rw [et, zKO, if_neg this]
 ·have : s.size - k = 0 := by have := zQg d; omega
  rw [this]; rfl
end Go.Proofs.YtcihcbfcgjepfaaGreatDoor
/- Table: pages of characters; which texts a page has. No condition. -/
namespace Go.Proofs.YtcihcbfcgjepfaaGreatDoor
open Go.Sh Go.RowKit Tryz
def yQu (w : World) (r : Nat) (g : Nat -> Bool) : Prop := ∃ c, w.heap[r]? = some (.cells c 215) /\ c.size = 768 /\ ∀ i, i < 768 -> ∃ n : Int, c[i]? = some (.int .i32 n) /\ decide (n < 0) = g i
theorem yQu.ext {w : World} {r : Nat} {g g' : Nat -> Bool} (h : yQu w r g) (e : ∀ i, i < 768 -> g i = g' i) : yQu w r g' :=
 let ⟨c, h1, h2, h3⟩ := h; ⟨c, h1, h2, fun i hi => let ⟨n, h4, h5⟩ := h3 i hi; ⟨n, h4, h5.trans (e i hi)⟩⟩
theorem yQu.fr {B : Nat -> Prop} {w w' : World} {r : Nat} {g : Nat -> Bool} (h : yQu w r g) (hf : Fr B w w') (hn : ¬ B r) : yQu w' r g :=
 let ⟨c, h1, h2⟩ := h; ⟨c, hf.blk h1 hn, h2⟩
theorem yQu.st {w : World} {r : Nat} {g : Nat -> Bool} (h : yQu w r g) {j : Nat} (hj : j < 768) (n : Int) (a : Addr) (ha : a = ⟨r, j, none⟩) {K : World -> Prop}
  (hK : ∀ w', yQu w' r (fun i => if i = j then decide (n < 0) else g i) -> Fr (· = r) w w' -> K w') : st1 a (.int .i32 n) w K := by
 subst ha
 obtain ⟨c, h1, h2, h3⟩ := h
 refine zQ9 h1 (by omega) fun w' hw' hb' => hK w' ⟨_, hb', by simp [h2], fun i hi => ?_⟩ (by rw [hw']; exact Fr.cell w r j _)
 by_cases e : i = j
 ·subst e; exact ⟨n, by simp [h2, hi], by simp⟩
 ·obtain ⟨m, h4, h5⟩ := h3 i hi
  exact ⟨m, by rw [Array.getElem?_setIfInBounds_ne (Ne.symm e)]; exact h4, by simp [e, h5]⟩
theorem i32_in {n : Int} (h1 : -2147483648 <= n) (h2 : n <= 2147483647) : IntKind.i32.wrap n = n := Go.IntWalk.i32_in n ⟨h1, h2⟩
theorem yYM : zc prog 215 = Array.replicate 768 (.int .i32 0) := by kernel_rfl
theorem s149 : zXc prog 215 = 768 := by kernel_rfl
def sg1 (k i : Nat) : Bool := decide ((128 <= i /\ i < k) ∨ (640 <= i /\ i < 512 + k))
def sg2 (k i : Nat) : Bool := decide ((128 <= i /\ i < 256) ∨ (512 + k <= i /\ i < 768))
def sg3 (k i : Nat) : Bool := decide ((128 <= i /\ i < 256) ∨ (688 <= i /\ i < 736) ∨ (512 + k <= i /\ i < 768))
theorem ad1 (r : Nat) (p k : Nat) : (((⟨r, 0, none⟩ : Addr).add ((p : Int).toNat * 256)).add ((k : Int).toNat * 1)) = ⟨r, p * 256 + k, none⟩ := by
 rw [zQf, zQf, zZa, zZa, Nat.zero_add, Nat.mul_one]
theorem yYx (w : World) : Calls prog 193 #[] w fun e w' => ∃ c : Array Value, e = .returned (.agg c) /\ c.size = 768 /\ (∀ i, i < 768 -> ∃ n : Int, c[i]? = some (.int .i32 n) /\ decide (n < 0) = sg3 240 i) /\ Pu w w' := by
 refine yQF w _ ?_
 refine alB fun w1 hp1 hb1 => alB fun w2 hp2 hb2 => ?_
 have hw12 : w.heap.size < w1.heap.size := zQH hb1
 have g0 : yQu w2 w1.heap.size (sg1 0) := ⟨_, hb2, by rw [yYM]; simp, fun i hi => ⟨0, by rw [yYM]; simp [hi], by unfold sg1; simp; omega⟩⟩
 -- the end
 have fin : ∀ {w3 : World}, yQu w3 w1.heap.size (sg3 240) -> Fr (· = w1.heap.size) w2 w3 -> yJH (fun e w' => ∃ c : Array Value, e = .returned (.agg c) /\ c.size = 768 /\ (∀ i, i < 768 -> ∃ n : Int, c[i]? = some (.int .i32 n) /\ decide (n < 0) = sg3 240 i) /\ Pu w w') (some (⟨w.heap.size, 0, none⟩ : Addr)) (some (⟨w1.heap.size, 0, none⟩ : Addr)) [] w3 := by
  intro w3 ⟨c, h1, h2, h3⟩ hf
  have hb3 := hf.blk (hp2.blk hb1) (show ¬ w.heap.size = w1.heap.size by omega)
  refine ⟨c, h2, fun i hi => cl h1 i, ?_⟩
  have ho : c.toList.all zYb = true := by
   rw [List.all_eq_true]
   intro v hv
   obtain ⟨i, hi, rfl⟩ := List.getElem_of_mem hv
   have hi' : i < c.size := by simpa using hi
   obtain ⟨n, h4, _⟩ := h3 i (by omega)
   rw [Array.getElem?_eq_getElem hi'] at h4
   have h4 := Option.some.inj h4
   rw [Array.getElem_toList, h4]; rfl
  refine zQy hb3 (by rw [s149, h2]) (by rw [yYM, h2]; simp) ho fun w4 hb4 hf4 hs4 => ?_
  refine ⟨c, h2, fun i hi => cl hb4 i, c, rfl, h2, h3, ?_⟩
  have hpu : Pu w w3 := (hp1.trans hp2).andNew hf fun i hi => by have hi : i = w1.heap.size := hi; omega
  exact hpu.andNew hf4 fun i hi => by have hi : i = w.heap.size := hi; omega
 refine zQ8 256 (fun k t w' => t = (k : Int) /\ yQu w' w1.heap.size (sg1 k) /\ Fr (· = w1.heap.size) w2 w') ⟨rfl, g0, Fr.refl _ _⟩ ?_
 rintro k J t w3 hk ⟨ht, hg, hf⟩ hJ
 obtain rfl : t = (k : Int) := ht
 refine Br.of (fun d => ?_) (fun d => ?_)
 ·have hk2 : k < 256 := by have := zQn d; omega
  refine ⟨by omega, by omega, by omega, by omega, ?_⟩
  rw [i32_in (by omega) (by omega)]
  refine hg.st (j := 256 + k) (by omega) (k : Int) _ (ad1 _ 1 k) fun w4 hg4 hf4 => ?_
  rw [zQe (by omega) (by omega)]
  refine Br.of (fun d1 => ?_) (fun d1 => ?_)
  ·have d1 : 128 <= k := by have := zQn d1; omega
   refine ⟨by omega, by omega, by omega, by omega, hg4.st (j := 0 + k) (by omega) (-1) _ (ad1 _ 0 k) fun w5 hg5 hf5 => ⟨by omega, by omega, by omega, by omega, hg5.st (j := 512 + k) (by omega) (-1) _ (ad1 _ 2 k) fun w6 hg6 hf6 => ?_⟩⟩
   refine hJ _ _ hk2 ⟨by omega, hg6.ext fun i hi => ?_, ((hf.trans hf4 fun _ h _ => h).trans hf5 fun _ h _ => h).trans hf6 fun _ h _ => h⟩
   simp only [sg1]
   repeat' split
   all_goals first | (simp only [decide_eq_decide]; omega) | (rw [eq_comm, decide_eq_true_iff]; omega) | (rw [eq_comm]; simp; omega) | (simp; omega)
  ·have d1 : ¬ 128 <= k := by have := zQg d1; omega
   refine ⟨by omega, by omega, by omega, by omega, hg4.st (j := 0 + k) (by omega) (k : Int) _ (ad1 _ 0 k) fun w5 hg5 hf5 => ⟨by omega, by omega, by omega, by omega, hg5.st (j := 512 + k) (by omega) (k : Int) _ (ad1 _ 2 k) fun w6 hg6 hf6 => ?_⟩⟩
   refine hJ _ _ hk2 ⟨by omega, hg6.ext fun i hi => ?_, ((hf.trans hf4 fun _ h _ => h).trans hf5 fun _ h _ => h).trans hf6 fun _ h _ => h⟩
   simp only [sg1]
   repeat' split
   all_goals first | (simp only [decide_eq_decide]; omega) | (rw [eq_comm, decide_eq_true_iff]; omega) | (rw [eq_comm]; simp; omega) | (simp; omega)
 have hk2 : k = 256 := by have := zQg d; omega
 subst hk2
 clear hJ J d
 refine zQ8 48 (fun k t w' => t = ((128 + k : Nat) : Int) /\ yQu w' w1.heap.size (sg2 (128 + k)) /\ Fr (· = w1.heap.size) w2 w') ⟨rfl, hg.ext fun i hi => by unfold sg1 sg2; exact zZ7 (by omega), hf⟩ ?_
 rintro k J t w4 hk ⟨ht, hg, hf⟩ hJ
 obtain rfl : t = ((128 + k : Nat) : Int) := ht
 refine Br.of (fun d => ?_) (fun d => ?_)
 ·have hk2 : k < 48 := by have := zQn d; omega
  refine ⟨by omega, by omega, by omega, by omega, ?_⟩
  rw [zQe (by omega) (by omega), i32_in (n := ((128 + k : Nat) : Int) - 128) (by omega) (by omega), i32_in (by omega) (by omega), zQe (by omega) (by omega)]
  refine hg.st (j := 512 + (128 + k)) (by omega) _ _ (ad1 _ 2 (128 + k)) fun w5 hg5 hf5 => hJ _ _ hk2 ⟨by omega, hg5.ext fun i hi => ?_, hf.trans hf5 fun _ h _ => h⟩
  simp only [sg2]
  split
  ·rw [decide_eq_decide]; omega
  ·simp only [decide_eq_decide]; omega
 have hk2 : k = 48 := by have := zQg d; omega
 subst hk2
 clear hJ J d
 refine zQ8 16 (fun k t w' => t = ((224 + k : Nat) : Int) /\ yQu w' w1.heap.size (sg3 (224 + k)) /\ Fr (· = w1.heap.size) w2 w') ⟨rfl, hg.ext fun i hi => by unfold sg3 sg2; exact zZ7 (by omega), hf⟩ ?_
 rintro k J t w5 hk ⟨ht, hg, hf⟩ hJ
 obtain rfl : t = ((224 + k : Nat) : Int) := ht
 refine Br.of (fun d => ?_) (fun d => ?_)
 ·have hk2 : k < 16 := by have := zQn d; omega
  refine ⟨by omega, by omega, by omega, by omega, ?_⟩
  rw [zQe (by omega) (by omega), i32_in (n := ((224 + k : Nat) : Int) - 224) (by omega) (by omega), i32_in (by omega) (by omega), zQe (by omega) (by omega)]
  refine hg.st (j := 512 + (224 + k)) (by omega) _ _ (ad1 _ 2 (224 + k)) fun w5 hg5 hf5 => hJ _ _ hk2 ⟨by omega, hg5.ext fun i hi => ?_, hf.trans hf5 fun _ h _ => h⟩
  simp only [sg3]
  split
  ·rw [decide_eq_decide]; omega
  ·simp only [decide_eq_decide]; omega
 have hk2 : k = 16 := by have := zQg d; omega
 subst hk2
 exact fin hg hf
theorem u149 : prog.underlying 215 = some (.array 3 214) := by kernel_rfl
theorem yK7 {cs : Array Value} {p : Nat} (hp : p < 3) (w : World) : (Instr.index 215 (.agg cs) (.int .i64 (p : Int))).run prog w = .ok (.agg (cs.extract (p * 256) (p * 256 + 256))) w := by
 have h1 : (part 214 cs (p * 256)).run prog w = .ok (.agg (cs.extract (p * 256) (p * 256 + 256))) w := by
  unfold part
  have a : (isAgg 214).run prog w = .ok true w := Tryz.isAgg214 w
  have s : (sizeOf 214).run prog w = .ok 256 w := Tryz.sizeOf214 w
  simp only [Sem.run_bind, a, Result.andThen_ok, if_true, s, Sem.run_pure]
 have s : (sizeOf 214).run prog w = .ok 256 w := Tryz.sizeOf214 w
 unfold Instr.index
 simp only [asIntOf, Sem.run_bind, Sem.run_pure, Result.andThen_ok, zQk u149]
 have h0 : (0 : Int) <= (p : Int) /\ (p : Int) < ((3 : Nat) : Int) := by omega
 rw [if_pos h0]
 simp only [Sem.run_bind, s, Result.andThen_ok, zZa, h1]
theorem yYt {w : World} {r : Nat} {s : ByteArray} (p : Int) (hb : w.heap[r]? = some (.cells #[.string s] 9)) : Calls prog 192 #[.int .i64 p, .slice (some ⟨r, 0, none⟩) 1 1] w fun e w' => e = .returned (.int .i64 (if 2048 < s.size then 3 else if zQX p then 0 else 1)) /\ Pu w w' := by
 refine yQ7 _ ⟨some ⟨r, 0, none⟩, 1, 1⟩ w _ ?_
 refine zQ8 1 (fun k t w' => t = (k : Int) /\ w' = w /\ (0 < k -> ¬ 2048 < s.size)) ⟨rfl, rfl, fun h => by omega⟩ ?_
 rintro k J t w2 hk ⟨ht, hw, hs⟩ hJ
 obtain rfl : t = (k : Int) := ht
 obtain rfl : w2 = w := hw
 refine Br.of (fun d => ?_) (fun d => ?_)
 ·have hk0 : k = 0 := by have := zQn d; dsimp only at this; omega
  subst hk0
  refine ⟨_, rfl, by omega, by dsimp only; omega, s, cl hb 0, Br.of (fun d1 => ?_) (fun d1 => ?_)⟩
  ·exact ⟨by rw [if_pos (show 2048 < s.size by have := zQn d1; omega)], Pu.refl _⟩
  ·rw [zQe (by omega) (by omega)]
   exact hJ _ _ (by omega) ⟨rfl, rfl, fun _ => by have := zQg d1; omega⟩
 ·have hk1 : k = 1 := by have := zQg d; dsimp only at this; omega
  subst hk1
  rw [if_neg (hs (by omega))]
  refine Br.of (fun d1 => ?_) (fun d1 => Br.of (fun d2 => ?_) (fun d2 => ?_))
  ·have := zQn d1; exact ⟨by rw [if_neg]; simp [zQX]; omega, Pu.refl _⟩
  ·have := zQn d2; exact ⟨by rw [if_neg]; simp [zQX]; omega, Pu.refl _⟩
  ·have := zQg d1; have := zQg d2; exact ⟨by rw [if_pos]; simp [zQX]; omega, Pu.refl _⟩
theorem on_sg {b : UInt8} {p : Nat} (hp : p < 3) : sg3 240 (p * 256 + b.toNat) = !onB b (p : Int) := by
 have := b.toNat_lt
 unfold sg3 onB
 rcases (by omega : p = 0 ∨ p = 1 ∨ p = 2) with rfl | rfl | rfl
 ·rw [if_pos (by rfl), ← decide_not]; exact zZ7 (by omega)
 ·rw [if_neg (by omega), if_pos (by rfl)]; simp; omega
 ·rw [if_neg (by omega), if_neg (by omega), ← Bool.decide_and, ← Bool.decide_or, ← decide_not]; exact zZ7 (by omega)
theorem u9 : prog.underlying 9 = some .string := by kernel_rfl
theorem u37 : prog.underlying 217 = some (.slice 5) := by kernel_rfl
theorem u5 : prog.underlying 5 = some (.int .u8) := by kernel_rfl
theorem s148 : zXc prog 214 = 256 := by kernel_rfl
theorem zc148' : zc prog 214 = Array.replicate 256 (.int .i32 0) := by kernel_rfl
theorem zc148 : (zc prog 214).size = 256 := by rw [zc148']; simp
theorem zYe (s : ByteArray) (hs : s.size <= 140737488355328) (p : Int) (w : World) : Calls prog 157 #[.string s, .int .i64 p] w fun e w' =>
  e = .returned (.tuple #[.bool (decide (s.size <= 2048) && zQX p && zX3 s.data.toList p), .int .i64 (if 2048 < s.size then 3 else if zQX p then 0 else 1)]) /\ Pu w w' := by
 refine yXA _ _ w _ ?_
 refine alB fun w1 hp1 hb1 => (yYt p hb1).mono ?_
 rintro e w2 ⟨rfl, hp2⟩
 refine ⟨_, rfl, Br.of (fun d => ?_) (fun d => ?_)⟩
 ·have d := zQ5 d
  refine ⟨?_, hp1.trans hp2⟩
  have : (decide (s.size <= 2048) && zQX p) = false := by
   by_cases h : 2048 < s.size
   ·rw [decide_eq_false (by omega)]; rfl
   ·cases h2 : zQX p
    ·simp
    ·rw [if_neg h, h2] at d; exact absurd rfl d
  rw [this]; rfl
 have d := zQv d
 have hs2 : ¬ 2048 < s.size := fun h => by rw [if_pos h] at d; omega
 have hpg : zQX p = true := by
  cases h2 : zQX p
  ·rw [if_neg hs2, h2] at d; simp at d
  ·rfl
 obtain ⟨q, rfl, hq⟩ : ∃ q : Nat, p = q /\ q < 3 := ⟨p.toNat, by simp [zQX] at hpg; omega, by simp [zQX] at hpg; omega⟩
 refine (yYx w2).mono ?_
 rintro e w3 ⟨c, rfl, hc, hn, hp3⟩
 refine ⟨c, hc, rfl, c.extract (q * 256) (q * 256 + 256), by simp [hc]; omega, w3, yK7 hq w3, ?_⟩
 have hat : ∀ i, i < 256 -> ∃ n : Int, (c.extract (q * 256) (q * 256 + 256))[i]? = some (.int .i32 n) /\ decide (n < 0) = sg3 240 (q * 256 + i) := fun i hi => by
  obtain ⟨n, h1, h2⟩ := hn (q * 256 + i) (by omega)
  refine ⟨n, ?_, h2⟩
  rw [Array.getElem?_extract, if_pos (by omega)]
  exact h1
 refine alB fun w4 hp4 hb4 => zQy hb4 (by rw [s148]; simp [hc]; omega) (by rw [zc148]; simp [hc]; omega) ?_ fun w5 hb5 hf5 hs5 => ?_
 ·rw [List.all_eq_true]
  intro v hv
  obtain ⟨i, hi, rfl⟩ := List.getElem_of_mem hv
  have hi' : i < (c.extract (q * 256) (q * 256 + 256)).size := by rw [← Array.length_toList]; exact hi
  obtain ⟨n, h4, _⟩ := hat i (by rw [Array.size_extract] at hi'; omega)
  rw [Array.getElem?_eq_getElem hi'] at h4
  have h4 := Option.some.inj h4
  rw [Array.getElem_toList, h4]; rfl
 have hp35 : Pu w3 w5 := hp4.andNew hf5 fun i hi => by have hi : i = w3.heap.size := hi; omega
 obtain ⟨l, w6, hcv, hp6, hl⟩ := yXf (P := prog) u9 u37 u5 s (by omega) w5
 have hb6 := hp6.blk hb5
 have hlen := hl.len
 have hlen2 : s.data.toList.length = s.size := by simp
 have e2 : (decide (s.size <= 2048) && zQX (q : Int) && zX3 s.data.toList (q : Int)) = zX3 s.data.toList (q : Int) := by rw [hpg, decide_eq_true (by omega)]; rfl
 refine ⟨l, w6, hcv, zQ8 s.data.toList.length (fun k t w' => t = (k : Int) /\ w' = w6 /\ zX3 (s.data.toList.take k) (q : Int) = true) ⟨rfl, rfl, rfl⟩ ?_⟩
 rintro k J t w7 hk ⟨ht, hw7, htx⟩ hJ
 obtain rfl : t = (k : Int) := ht
 obtain rfl : w7 = w6 := hw7
 have hpu : Pu w w7 := (((hp1.trans hp2).trans hp3).trans hp35).trans hp6
 refine Br.of (fun d1 => ?_) (fun d1 => ?_)
 ·have hk2 : k < s.data.toList.length := by have := zQn d1; omega
  obtain ⟨b, hb⟩ := zXD hk2
  obtain ⟨a, ha, hi, hcell⟩ := hl.u8 hb
  have hbl := b.toNat_lt
  obtain ⟨n, hn1, hn2⟩ := hat b.toNat (by omega)
  refine ⟨a, ha, by omega, by omega, _, by simpa using hcell, by omega, by omega, n, ?_, ?_⟩
  ·rw [zQf, zQs hb6, Nat.zero_add, zZa, Nat.mul_one]; exact hn1
  rw [hn2, on_sg hq]
  refine Br.of (fun d2 => ⟨?_, hpu⟩) (fun d2 => ?_)
  ·have d2 : onB b (q : Int) = false := by simpa using d2
   have : zX3 s.data.toList (q : Int) = false := by
    unfold zX3; rw [List.all_eq_false]; exact ⟨b, List.mem_of_getElem? hb, by rw [d2]; simp⟩
   rw [e2, this, if_neg hs2, hpg]; rfl
  ·have d2 : onB b (q : Int) = true := by simpa using d2
   rw [zQe (by omega) (by omega)]
   exact hJ _ _ hk2 ⟨by omega, rfl, by unfold zX3 at *; rw [zZ1 _ hb, htx, d2]; rfl⟩
 ·have hk2 : k = s.data.toList.length := by have := zQg d1; omega
  rw [hk2, List.take_length] at htx
  exact ⟨by rw [e2, htx, if_neg hs2, hpg]; rfl, hpu⟩
theorem yK9 (s : ByteArray) (hs : s.size <= 2048) {p : Int} (hpg : zQX p = true) (w : World) : Calls prog 110 #[.string s, .int .i64 p] w fun e w' => e = .returned (.bool (zX3 s.data.toList p)) /\ Pu w w' := by
 refine yQL _ _ w _ ((zYe s (by omega) p w).mono ?_)
 rintro e w2 ⟨rfl, hp⟩
 have e1 : (decide (s.size <= 2048) && zQX p && zX3 s.data.toList p) = zX3 s.data.toList p := by rw [hpg, decide_eq_true hs]; rfl
 refine ⟨_, _, rfl, ?_⟩
 rw [e1, if_neg (by omega), hpg]
 exact Br.of (fun d => ⟨by rw [d]; rfl, hp⟩) (fun d => ⟨by rw [d], hp⟩)
theorem on_c (b : UInt8) (p : Int) (w : World) : Calls prog 149 #[.int .u8 ((b.toNat : Nat) : Int), .int .i64 p] w fun e w' => e = .returned (.bool (onB b p)) /\ Pu w w' := by
 have hu := b.toNat_lt
 refine yQA _ _ w _ (Br.of (fun d => ⟨?_, Pu.refl w⟩) (fun d => Br.of (fun d1 => ⟨?_, Pu.refl w⟩) (fun d1 => Br.of (fun d2 => ⟨?_, Pu.refl w⟩) (fun d2 => Br.of (fun d3 => ⟨?_, Pu.refl w⟩) (fun d3 => ⟨?_, Pu.refl w⟩)))))
 ·rw [onB, if_pos (zQA d)]; congr 2; exact zZ7 (by omega)
 ·rw [onB, if_neg (zQj d), if_pos (zQA d1)]
 ·have := zQn d2
  rw [onB, if_neg (zQj d), if_neg (zQj d1), decide_eq_true (show b.toNat < 176 by omega)]; rfl
 ·have := zQg d2; have := zQn d3
  rw [onB, if_neg (zQj d), if_neg (zQj d1), decide_eq_false (show ¬ b.toNat < 176 by omega), decide_eq_true (show 224 <= b.toNat by omega), Bool.false_or, Bool.true_and]; congr 2; exact zZ7 (by omega)
 ·have := zQg d2; have := zQg d3
  rw [onB, if_neg (zQj d), if_neg (zQj d1), decide_eq_false (show ¬ b.toNat < 176 by omega), decide_eq_false (show ¬ 224 <= b.toNat by omega)]; rfl
theorem yXO (s : ByteArray) (hs : s.size <= 140737488355328) (p : Int) (w : World) : Calls prog 100 #[.string s, .int .i64 p] w fun e w' => e = .returned (.bool (zX3 s.data.toList p)) /\ Pu w w' := by
 refine yXa _ _ w _ ?_
 refine zQ8 s.size (fun k t w' => t = (k : Int) /\ Pu w w' /\ zX3 (s.data.toList.take k) p = true) ⟨rfl, Pu.refl _, rfl⟩ ?_
 rintro k J t w2 hk ⟨ht, hp, htx⟩ hJ
 obtain rfl : t = (k : Int) := ht
 refine Br.of (fun d => ?_) (fun d => ?_)
 ·have hk2 : k < s.size := by have := zQn d; omega
  obtain ⟨b, hb1, hb2⟩ := zKC hk2
  refine ⟨b, by omega, by rw [zZa]; exact hb1, (on_c b p w2).mono ?_⟩
  rintro e w3 ⟨rfl, hp3⟩
  refine ⟨_, rfl, Br.of (fun d1 => ⟨?_, hp.trans hp3⟩) (fun d1 => ?_)⟩
  ·have d1 : onB b p = false := by simpa using d1
   have : zX3 s.data.toList p = false := by
    unfold zX3; rw [List.all_eq_false]; exact ⟨b, List.mem_of_getElem? hb2, by rw [d1]; simp⟩
   rw [this]
  ·have d1 : onB b p = true := by simpa using d1
   rw [zQe (by omega) (by omega)]
   exact hJ _ _ hk2 ⟨by omega, hp.trans hp3, by unfold zX3 at *; rw [zZ1 _ hb2, htx, d1]; rfl⟩
 ·have hk2 : k = s.data.toList.length := by have := zQg d; simp; omega
  rw [hk2, List.take_length] at htx
  exact ⟨by rw [htx], hp⟩
end Go.Proofs.YtcihcbfcgjepfaaGreatDoor
/- Table: what a value becomes in a field. No condition. -/
namespace Go.Proofs.YtcihcbfcgjepfaaGreatDoor
open Go.Sh Go.RowKit Tryz
theorem yYc (ts : Array TypeId) (r : TypeId) (k : IntKind) (a b : Int) (w : World) : (Builtin.min_ ts r #[.int k a, .int k b]).run prog w = .ok (.int k (min a b)) w := by
 rw [run_min_int2]; congr 2; omega
theorem zKz {v : Val} (h : zXb v = 0) : v.s.size <= 2048 /\ okN v.kind v.n = true /\ (v.kind = 4 ∨ v.s.size = 0) := by
 rw [zXQ] at h
 by_cases h1 : 2048 < v.s.size
 ·rw [if_pos h1] at h; omega
 ·rw [if_neg h1] at h
  cases h2 : zXz v
  ·rw [h2] at h; simp at h
  ·unfold zXz at h2; simp at h2; exact ⟨by omega, h2.1, h2.2.imp id fun e => by rw [e]; rfl⟩
def strL (n w : Int) : List UInt8 := if w < (zJK n).length then List.replicate w.toNat 42 else List.replicate (w.toNat - (zJK n).length) 32 ++ zJK n
theorem str_c {n w : Int} (h1 : -1000000000000000 <= n /\ n <= 1000000000000000) (h2 : 1 <= w /\ w <= 254) (W : World) : Calls prog 111 #[.int .i64 n, .int .i64 w] W fun e W' => e = .returned (.tuple #[.string (bs (strL n w)), .int .i64 0]) /\ Pu W W' := by
 refine yQN _ _ W _ ((yZ7 n W).mono ?_)
 rintro e W1 ⟨rfl, hp1⟩
 refine ⟨_, rfl, ?_⟩
 rw [decide_eq_true h1.1, decide_eq_true h1.2]
 refine Br.f rfl (Br.of (fun d => absurd (zQn d) (by omega)) (fun _ => Br.of (fun d => absurd (zQn d) (by omega)) (fun _ => (dec_c (by omega) (by omega) W1).mono ?_)))
 rintro e W2 ⟨rfl, hp2⟩
 have es := zXu (zJK n)
 refine ⟨_, rfl, Br.of (fun d => ?_) (fun d => ?_)⟩
 ·have d := zQn d
  have e1 : w = ((w.toNat : Nat) : Int) := by omega
  rw [show (Value.int .i64 w) = .int .i64 ((w.toNat : Nat) : Int) by rw [← e1]]
  refine (yQp 42 w.toNat (by omega) W2).mono ?_
  rintro e W3 ⟨rfl, hp3⟩
  exact ⟨_, rfl, by unfold strL; rw [if_pos (by omega)], (hp1.trans hp2).trans hp3⟩
 ·have d := zQg d
  rw [yKk, zQe (by omega) (by omega)]
  have e1 : w - (((bs (zJK n)).size : Nat) : Int) = ((w.toNat - (zJK n).length : Nat) : Int) := by omega
  rw [e1]
  refine (yQp 32 _ (by omega) W2).mono ?_
  rintro e W3 ⟨rfl, hp3⟩
  refine ⟨_, rfl, ?_, ?_, (hp1.trans hp2).trans hp3⟩
  ·rw [zXu, zXu]; simp only [List.length_replicate]; omega
  ·rw [zZr]; unfold strL; rw [if_neg (by omega)]
theorem yK8 (s : ByteArray) (b : UInt8) (w : World) : Calls prog 112 #[.string s, .string ⟨#[b]⟩] w fun e w' => e = .returned (.bool (decide (s.data.toList.head? = some b))) /\ Pu w w' :=
 (Any.strings_HasPrefix Tryz.lays99 s ⟨#[b]⟩ w).mono fun e w' ⟨h1, h2⟩ => ⟨by
  rw [h1]; congr 2
  show Lib.hasPrefix s.data.toList [b] = _
  unfold Lib.hasPrefix
  cases s.data.toList with
  | nil => rfl
  | cons a l =>
   rw [List.isPrefixOf_cons_cons, List.isPrefixOf_nil_left, Bool.and_true]
   by_cases h : b = a
   ·simp [h]
   ·simp [h, Ne.symm h], h2 ▸ Pu.refl _⟩
theorem yJQ (n : Int) : ∃ b l, zJK n = b :: l /\ b ≠ 42 := by
 by_cases h : n < 0
 ·exact ⟨45, _, zKx h, by decide⟩
 ·have hn : zJK n = zZ8 n.natAbs := by unfold zJK; rw [if_neg h]
  cases hl : zZ8 n.natAbs with
  | nil => have := yQo n.natAbs; rw [hl] at this; simp at this
  | cons b l =>
   refine ⟨b, l, by rw [hn, hl], fun e => ?_⟩
   have := zWy n.natAbs b (by rw [hl]; simp)
   rw [e] at this; simp at this
theorem yJl {n w : Int} (h : 1 <= w) : decide ((strL n w).head? = some 42) = decide (w < (zJK n).length) := by
 obtain ⟨b, l, hd, hb⟩ := yJQ n
 unfold strL
 by_cases h1 : w < (zJK n).length
 ·rw [if_pos h1, decide_eq_true h1]
  obtain ⟨k, hk⟩ : ∃ k, w.toNat = k + 1 := ⟨w.toNat - 1, by omega⟩
  rw [hk, List.replicate_succ]; simp
 ·rw [if_neg h1, decide_eq_false h1]
  cases hm : w.toNat - (zJK n).length with
  | zero => rw [hd]; simp [hb]
  | succ m => simp [List.replicate_succ]
theorem retV {w : World} {r : Nat} {c : Array Value} (v : Val) (k : Int) {R : Rt} (hb : w.heap[r]? = some (.cells c 28)) (hc : c.size = 3) (hR : ∀ w', Fr (· = r) w w' -> R (.returned (.tuple #[zKq v, .int .i64 k])) w') :
  stA prog 28 (⟨r, 0, none⟩ : Addr) #[.int .i64 v.kind, .int .i64 v.n, .string v.s] w fun w' => ∃ n0 : Int, w'.cell? ((⟨r, 0, none⟩ : Addr).add 0) = some (.int .i64 n0) /\ ∃ n1 : Int, w'.cell? ((⟨r, 0, none⟩ : Addr).add 1) = some (.int .i64 n1) /\
   ∃ s2 : ByteArray, w'.cell? ((⟨r, 0, none⟩ : Addr).add 2) = some (.string s2) /\ R (.returned (.tuple #[.agg #[.int .i64 n0, .int .i64 n1, .string s2], .int .i64 k])) w' :=
 zQy hb s25.symm (by rw [hc]; rfl) rfl fun w' hb' hf _ => ⟨_, cl hb' 0, _, cl hb' 1, _, cl hb' 2, hR w' hf⟩
theorem zJY {f : Fld} {p : Int} {v : Val} (h : (zQr f && zQX p) = false) : zJu f p v = (noV, 1) := by unfold zJu; rw [h]; rfl
theorem zKi {f : Fld} {p : Int} {v : Val} (h : (zQr f && zQX p) = true) (h2 : zXb v ≠ 0) : zJu f p v = (noV, zXb v) := by unfold zJu; rw [h, if_pos rfl, if_pos h2]
theorem zJk {f : Fld} {p : Int} {v : Val} (h : (zQr f && zQX p) = true) (h2 : zXb v = 0) : zJu f p v = zXR f p v := by unfold zJu; rw [h, if_pos rfl, if_neg (by omega)]
theorem zVj {f : Fld} (h : zQr f = true) (hk : f.kind = 4) : 1 <= f.width /\ f.width <= 254 := by
 unfold zQr zKH at h; rw [hk] at h; simp at h; exact h.2
theorem yYC {f : Fld} (h : zQr f = true) (hk : f.kind = 2) : 1 <= f.width /\ f.width <= 15 := by
 unfold zQr zKH at h; rw [hk] at h; simp at h; exact h.2
theorem yKE (l : List UInt8) (w : Int) (n : Nat) (hn : l.length = n) (hw : 0 <= w) : l.take (min (n : Int) w).toNat = l.take w.toNat := by
 by_cases h : (n : Int) <= w
 ·rw [show (min (n : Int) w).toNat = n by omega, List.take_of_length_le (by omega), List.take_of_length_le (by omega)]
 ·rw [show min (n : Int) w = w by omega]
theorem zYG (l : List UInt8) : (zXU l).length <= l.length := by
 unfold zXU
 have h := List.IsSuffix.length_le (List.dropWhile_suffix (· == (32 : UInt8)) (l := l.reverse))
 simpa using h
theorem fit_c (f : Fld) (p : Int) (v : Val) (hs : f.name.size <= 140737488355328) (w : World) : Calls prog 52 #[yXP f, .int .i64 p, zKq v] w fun e w' =>
  e = .returned (.tuple #[zKq (zJu f p v).1, .int .i64 (zJu f p v).2]) /\ Pu w w' := by
 refine yJn _ _ _ _ _ _ _ _ w _ ?_
 refine alB fun w1 hp1 hb1 => alB fun w2 hp2 hb2 => alB fun w3 hp3 hb3 => ?_
 have z1 : w1.heap.size <= w2.heap.size := hp2.size
 have z0 : w.heap.size <= w1.heap.size := hp1.size
 have l1 : w.heap.size < w1.heap.size := zQH hb1
 have l2 : w1.heap.size < w2.heap.size := zQH hb2
 have hp03 : Pu w w3 := (hp1.trans hp2).trans hp3
 -- a value and a code are handed back
 have out : ∀ {wz : World} (v' : Val) (k : Int) {c : Array Value}, Pu w wz -> wz.heap[w2.heap.size]? = some (.cells c 28) -> c.size = 3 -> zJu f p v = (v', k) ->
   stA prog 28 (⟨w2.heap.size, 0, none⟩ : Addr) #[.int .i64 v'.kind, .int .i64 v'.n, .string v'.s] wz fun w' => ∃ n0 : Int, w'.cell? ((⟨w2.heap.size, 0, none⟩ : Addr).add 0) = some (.int .i64 n0) /\ ∃ n1 : Int, w'.cell? ((⟨w2.heap.size, 0, none⟩ : Addr).add 1) = some (.int .i64 n1) /\
    ∃ s2 : ByteArray, w'.cell? ((⟨w2.heap.size, 0, none⟩ : Addr).add 2) = some (.string s2) /\ (Ending.returned (.tuple #[.agg #[.int .i64 n0, .int .i64 n1, .string s2], .int .i64 k]) = .returned (.tuple #[zKq (zJu f p v).1, .int .i64 (zJu f p v).2]) /\ Pu w w') := fun {wz} v' k {c} h1 h2 h3 h4 =>
  retV (R := fun e w' => e = .returned (.tuple #[zKq (zJu f p v).1, .int .i64 (zJu f p v).2]) /\ Pu w w') v' k h2 h3 fun w' hf => ⟨by rw [h4], h1.andNew hf fun i hi => by have hi : i = w2.heap.size := hi; omega⟩
 have b1 : ∀ {wz}, Pu w3 wz -> wz.heap[w.heap.size]? = some (.cells #[.string f.name, .int .i64 f.kind, .int .i64 f.width, .bool f.null] 38) := fun h => h.blk (hp3.blk (hp2.blk hb1))
 have b2 : ∀ {wz}, Pu w3 wz -> wz.heap[w1.heap.size]? = some (.cells #[.int .i64 v.kind, .int .i64 v.n, .string v.s] 28) := fun h => h.blk (hp3.blk hb2)
 have b3 : ∀ {wz}, Pu w3 wz -> wz.heap[w2.heap.size]? = some (.cells #[.int .i64 0, .int .i64 0, .string ⟨#[]⟩] 28) := fun h => h.blk hb3
 have q0 := b1 (Pu.refl w3)
 refine ⟨_, cl q0 0, _, cl q0 1, _, cl q0 2, _, cl q0 3, (zVz f hs w3).mono ?_⟩
 rintro e w4 ⟨rfl, hp4⟩
 refine ⟨_, rfl, Br.of (fun d => out noV 1 (hp03.trans hp4) (b3 hp4) rfl (zJY (by simp at d; simp [d]))) (fun d => (yQe p w4).mono ?_)⟩
 have hfB : zQr f = true := by simpa using d
 rintro e w5 ⟨rfl, hp5⟩
 have hp35 := hp4.trans hp5
 refine ⟨_, rfl, Br.of (fun d => out noV 1 (hp03.trans hp35) (b3 hp35) rfl (zJY (by simp at d; simp [d]))) (fun d => ?_)⟩
 have hpB : zQX p = true := by simpa using d
 have hB : (zQr f && zQX p) = true := by rw [hfB, hpB]; rfl
 refine ⟨_, cl (b2 hp35) 0, _, cl (b2 hp35) 1, _, cl (b2 hp35) 2, (yZG v w5).mono ?_⟩
 rintro e w6 ⟨rfl, hp6⟩
 have hp36 := hp35.trans hp6
 have hp06 := hp03.trans hp36
 refine ⟨_, rfl, Br.of (fun d => out noV (zXb v) hp06 (b3 hp36) rfl (zKi hB (zQ5 d))) (fun d => ?_)⟩
 have hv := zQv d
 obtain ⟨hvs, hvn, hv4⟩ := zKz hv
 have hF := zJk (f := f) (p := p) hB hv
 refine ⟨_, cl0 (b2 hp36), Br.of (fun d0 => ⟨_, cl (b1 hp36) 3, Br.of (fun d1 => out noV 7 hp06 (b3 hp36) rfl ?_) (fun d1 => ⟨_, cl (b2 hp36) 0, _, cl (b2 hp36) 1, _, cl (b2 hp36) 2, out v 0 hp06 (b3 hp36) rfl ?_⟩)⟩) (fun d0 => ?_)⟩
 ·rw [hF]; unfold zXR; rw [if_pos (zQA d0), show f.null = false by simpa using d1]; rfl
 ·rw [hF]; unfold zXR; rw [if_pos (zQA d0), show f.null = true by simpa using d1]; rfl
 have d0 := zQj d0
 refine zQl fun w7 hp7 hh7 => ⟨fun u => Pu w7 u, Pu.refl _, v.kind, fun u hu => cl0 (b2 ((hp36.trans hp7).trans hu)), f.name, fun u hu => cl (b1 ((hp36.trans hp7).trans hu)) 0, f.kind, fun u hu => cl (b1 ((hp36.trans hp7).trans hu)) 1, f.width, fun u hu => cl (b1 ((hp36.trans hp7).trans hu)) 2, f.null, fun u hu => cl (b1 ((hp36.trans hp7).trans hu)) 3, (yYO f w7).mono ?_⟩
 rintro e w8 ⟨rfl, hp8⟩
 have hp38 := (hp36.trans hp7).trans hp8
 have hp08 := hp03.trans hp38
 refine ⟨_, _, _, rfl, hp8, Br.of (fun d1 => out noV 6 hp08 (b3 hp38) rfl ?_) (fun d1 => ⟨_, cl (b1 hp38) 1, ?_⟩)⟩
 ·rw [hF]; unfold zXR; rw [if_neg d0, if_pos (zQ5 d1)]
 have d1 := zQv d1
 have hF2 : zJu f p v = if f.kind = 4 then (if zX3 (zXU (v.s.data.toList.take f.width.toNat)) p then (⟨4, 0, bs (zXU (v.s.data.toList.take f.width.toNat))⟩, 0) else (noV, 10)) else if zQK f p v then (v, 0) else (noV, 10) := by
  rw [hF]; unfold zXR; rw [if_neg d0, if_neg (by rw [d1]; simp)]
 have hv0 : ¬ zXb v ≠ 0 := by omega
 -- what a value is that stays
 have stay : ∀ {wz : World}, Pu w3 wz -> zJu f p v = (v, 0) -> ∃ n0 : Int, wz.cell? ((⟨w1.heap.size, 0, none⟩ : Addr).add 0) = some (.int .i64 n0) /\ ∃ n1 : Int, wz.cell? ((⟨w1.heap.size, 0, none⟩ : Addr).add 1) = some (.int .i64 n1) /\ ∃ s2 : ByteArray, wz.cell? ((⟨w1.heap.size, 0, none⟩ : Addr).add 2) = some (.string s2) /\
   stA prog 28 (⟨w2.heap.size, 0, none⟩ : Addr) #[.int .i64 n0, .int .i64 n1, .string s2] wz fun w' => ∃ n0 : Int, w'.cell? ((⟨w2.heap.size, 0, none⟩ : Addr).add 0) = some (.int .i64 n0) /\ ∃ n1 : Int, w'.cell? ((⟨w2.heap.size, 0, none⟩ : Addr).add 1) = some (.int .i64 n1) /\
    ∃ s2 : ByteArray, w'.cell? ((⟨w2.heap.size, 0, none⟩ : Addr).add 2) = some (.string s2) /\ (Ending.returned (.tuple #[.agg #[.int .i64 n0, .int .i64 n1, .string s2], .int .i64 0]) = .returned (.tuple #[zKq (zJu f p v).1, .int .i64 (zJu f p v).2]) /\ Pu w w') := fun {wz} h h2 =>
  ⟨_, cl (b2 h) 0, _, cl (b2 h) 1, _, cl (b2 h) 2, out v 0 (hp03.trans h) (b3 h) rfl h2⟩
 refine Br.of (fun d2 => ?_) (fun d2 => Br.of (fun d3 => ?_) (fun d3 => Br.of (fun d4 => ?_) (fun d4 => ?_)))
 ·have d2 := zQA d2
  obtain ⟨wl, wh⟩ := zVj hfB d2
  rw [if_pos d2] at hF2
  refine ⟨_, cl (b2 hp38) 2, _, cl (b2 hp38) 2, _, cl (b1 hp38) 2, _, w8, yYc _ _ _ _ _ _, by omega, by omega, by omega, (zYz _ (by have := zXm v.s 0 (min (v.s.size : Int) f.width).toNat; have := zZu (v.s.extract 0 (min (v.s.size : Int) f.width).toNat); simp at *; omega) w8).mono ?_⟩
  rintro e w9 ⟨rfl, hp9⟩
  have et : (v.s.extract 0 (min (v.s.size : Int) f.width).toNat).data.toList = v.s.data.toList.take f.width.toNat := by
   rw [zXm, List.drop_zero]; exact yKE _ _ _ (by simp) (by omega)
  rw [et]
  have hp39 := hp38.trans hp9
  have hkind : v.kind = 4 := by rw [d1]; unfold zXY; rw [if_neg (by omega)]; exact d2
  have hn0 : v.n = 0 := by rw [hkind] at hvn; simpa [okN] using hvn
  have hbl : (bs (zXU (v.s.data.toList.take f.width.toNat))).size <= 2048 := by
   rw [zXu]; have := zYG (v.s.data.toList.take f.width.toNat); have := List.length_take_le f.width.toNat v.s.data.toList; have := List.length_take_le' f.width.toNat v.s.data.toList; rw [zZu] at this; omega
  generalize hg : zXU (v.s.data.toList.take f.width.toNat) = B at *
  refine ⟨_, rfl, ?_⟩
  rw [zXB, zQf, Nat.zero_add]
  refine zQ9 (b2 hp39) (show 2 < 3 by omega) fun w10 hw10 hb10 => ?_
  have hf10 : Fr (· = w1.heap.size) w9 w10 := by rw [hw10]; exact Fr.cell w9 _ 2 _
  have hb10' : w10.heap[w1.heap.size]? = some (.cells #[.int .i64 v.kind, .int .i64 v.n, .string (bs B)] 28) := hb10
  have hpu10 : Pu w w10 := (hp03.trans hp39).andNew hf10 fun i hi => by have hi : i = w1.heap.size := hi; omega
  have hb310 := hf10.blk (b3 hp39) (show ¬ w2.heap.size = w1.heap.size by omega)
  refine ⟨_, cl hb10' 2, (yK9 _ hbl hpB w10).mono ?_⟩
  rintro e w11 ⟨rfl, hp11⟩
  rw [zJp]
  refine ⟨_, rfl, Br.of (fun d3 => out noV 10 (hpu10.trans hp11) (hp11.blk hb310) rfl ?_) (fun d3 => ⟨_, cl (hp11.blk hb10') 0, _, cl (hp11.blk hb10') 1, _, cl (hp11.blk hb10') 2, ?_⟩)⟩
  ·rw [hF2, show zX3 B p = false by simpa using d3]; rfl
  ·rw [hkind, hn0]
   exact out ⟨4, 0, bs B⟩ 0 (hpu10.trans hp11) (hp11.blk hb310) rfl (by rw [hF2, show zX3 B p = true by simpa using d3]; rfl)
 ·have d2 := zQj d2
  have d3 := zQA d3
  obtain ⟨wl, wh⟩ := yYC hfB d3
  have hkind : v.kind = 2 := by rw [d1]; unfold zXY; rw [if_neg (by omega)]; exact d3
  have hn : -1000000000000000 <= v.n /\ v.n <= 1000000000000000 := by rw [hkind] at hvn; simpa [okN] using hvn
  have hfit : zQK f p v = decide (((zJK v.n).length : Int) <= f.width) := by
   unfold zQK; rw [if_neg hv0, if_neg d0, if_neg (by omega), if_neg (by rw [hkind, d3]; simp), if_pos d3]
  rw [if_neg d2, hfit] at hF2
  refine ⟨_, cl (b2 hp38) 1, _, cl (b1 hp38) 2, (str_c hn ⟨wl, by omega⟩ w8).mono ?_⟩
  rintro e w9 ⟨rfl, hp9⟩
  have hp39 := hp38.trans hp9
  refine ⟨_, _, rfl, Br.of (fun d4 => absurd rfl (zQ5 d4)) (fun _ => (yK8 _ 42 w9).mono ?_)⟩
  rintro e w10 ⟨rfl, hp10⟩
  have hp310 := hp39.trans hp10
  refine ⟨_, rfl, ?_⟩
  rw [zJp, yJl wl]
  refine Br.of (fun d4 => out noV 10 (hp03.trans hp310) (b3 hp310) rfl ?_) (fun d4 => stay hp310 ?_)
  ·rw [hF2, decide_eq_false (by have := zQn d4; omega)]; rfl
  ·rw [hF2, decide_eq_true (by have := zQg d4; omega)]; rfl
 ·have d2 := zQj d2
  have d4 := zQA d4
  have hkind : v.kind = 2 := by rw [d1]; unfold zXY; rw [if_pos d4]
  have hfit : zQK f p v = zKP v.n := by
   unfold zQK; rw [if_neg hv0, if_neg d0, if_pos d4, hkind]; rfl
  rw [if_neg d2, hfit] at hF2
  refine ⟨_, cl (b2 hp38) 1, Br.of (fun d5 => out noV 10 hp08 (b3 hp38) rfl ?_) (fun d5 => ⟨_, cl (b2 hp38) 1, Br.of (fun d6 => out noV 10 hp08 (b3 hp38) rfl ?_) (fun d6 => stay hp38 ?_)⟩)⟩
  ·rw [hF2, show zKP v.n = false by unfold zKP; rw [decide_eq_false (by have := zQn d5; omega)]; rfl]; rfl
  ·rw [hF2, show zKP v.n = false by unfold zKP; rw [decide_eq_false (show ¬ v.n <= 99999999 by have := zQn d6; omega)]; simp]; rfl
  ·rw [hF2, show zKP v.n = true by unfold zKP; rw [decide_eq_true (show 0 <= v.n by have := zQg d5; omega), decide_eq_true (show v.n <= 99999999 by have := zQg d6; omega)]; rfl]; rfl
 ·have d2 := zQj d2
  have d3 := zQj d3
  have d4 := zQj d4
  have hfit : zQK f p v = true := by
   unfold zQK; rw [if_neg hv0, if_neg d0, if_neg d4, if_neg (by rw [d1]; unfold zXY; rw [if_neg d4]; simp), if_neg d3, if_neg d2]
  rw [if_neg d2, hfit] at hF2
  exact stay hp38 hF2
end Go.Proofs.YtcihcbfcgjepfaaGreatDoor
/- Table: what a value becomes in a field, the reference. No condition. -/
namespace Go.Proofs.YtcihcbfcgjepfaaGreatDoor
open Go.Sh Go.RowKit Tryz
theorem zVJ (l : List UInt8) (s : ByteArray) : bs l = s ↔ l = s.data.toList := by
 constructor
 ·intro h; rw [← h]
 ·intro h; rw [h]
theorem yWl (n : Int) (w : World) : Calls prog 146 #[.int .i64 n] w fun e w' => e = .returned (.bool (zKP n)) /\ Pu w w' := by
 refine yXu _ w _ (Br.of (fun d => ?_) (fun d => ?_))
 ·exact ⟨by rw [zKP, decide_eq_true (show 0 <= n from zQn d)]; rfl, Pu.refl w⟩
 ·exact ⟨by rw [zKP, decide_eq_false (show ¬ 0 <= n from zQg d)]; rfl, Pu.refl w⟩
theorem yYN (f : Fld) (p : Int) (v : Val) (w : World) : Calls prog 96 #[yXP f, .int .i64 p, zKq v] w fun e w' => e = .returned (.bool (zQK f p v)) /\ Pu w w' := by
 refine yZ6 _ _ _ _ _ _ _ _ w _ ?_
 refine alB fun w1 hp1 hb1 => alB fun w2 hp2 hb2 => ?_
 have hp02 := hp1.trans hp2
 have b1 : ∀ {wz}, Pu w2 wz -> wz.heap[w.heap.size]? = some (.cells #[.string f.name, .int .i64 f.kind, .int .i64 f.width, .bool f.null] 38) := fun h => h.blk (hp2.blk hb1)
 have b2 : ∀ {wz}, Pu w2 wz -> wz.heap[w1.heap.size]? = some (.cells #[.int .i64 v.kind, .int .i64 v.n, .string v.s] 28) := fun h => h.blk hb2
 have q0 := b2 (Pu.refl w2)
 refine ⟨_, cl q0 0, _, cl q0 1, _, cl q0 2, (yKZ v w2).mono ?_⟩
 rintro e w3 ⟨rfl, hp3⟩
 have hp03 := hp02.trans hp3
 have out : ∀ {wz : World} {b : Bool}, Pu w wz -> zQK f p v = b -> (Ending.returned (Value.bool b) = Ending.returned (Value.bool (zQK f p v)) /\ Pu w wz) := fun h1 h2 => ⟨by rw [h2], h1⟩
 refine ⟨_, rfl, Br.of (fun d => out hp03 (by unfold zQK; rw [if_pos (zQ5 d)])) (fun d => ?_)⟩
 have hv := zQv d
 have hv0 : ¬ zXb v ≠ 0 := by omega
 obtain ⟨hvs, hvn, hv4⟩ := zKz hv
 refine ⟨_, cl0 (b2 hp3), Br.of (fun d0 => ⟨_, cl (b1 hp3) 3, out hp03 (by unfold zQK; rw [if_neg hv0, if_pos (zQA d0)])⟩) (fun d0 => ⟨_, cl (b1 hp3) 1, Br.of (fun d1 => ?_) (fun d1 => ?_)⟩)⟩
 ·refine ⟨_, cl0 (b2 hp3), Br.of (fun d2 => ⟨_, cl (b2 hp3) 1, (yWl v.n w3).mono ?_⟩) (fun d2 => out hp03 ?_)⟩
  ·rintro e w4 ⟨rfl, hp4⟩
   exact ⟨_, rfl, out (hp03.trans hp4) (by unfold zQK; rw [if_neg hv0, if_neg (zQj d0), if_pos (zQA d1), decide_eq_true (zQA d2)]; rfl)⟩
  ·unfold zQK; rw [if_neg hv0, if_neg (zQj d0), if_pos (zQA d1), decide_eq_false (zQj d2)]; rfl
 have e0 : zQK f p v = if v.kind ≠ f.kind then false else if f.kind = 2 then decide (((zJK v.n).length : Int) <= f.width) else if f.kind = 4 then decide ((v.s.size : Int) <= f.width) && decide (zXU v.s.data.toList = v.s.data.toList) && zX3 v.s.data.toList p else true := by
  unfold zQK; rw [if_neg hv0, if_neg (zQj d0), if_neg (zQj d1)]
 refine ⟨_, cl0 (b2 hp3), _, cl (b1 hp3) 1, Br.of (fun d2 => out hp03 (by rw [e0, if_pos (zQ5 d2)])) (fun d2 => ⟨_, cl (b1 hp3) 1, Br.of (fun d3 => ?_) (fun d3 => ⟨_, cl (b1 hp3) 1, Br.of (fun d4 => ?_) (fun d4 => out hp03 ?_)⟩)⟩)⟩
 ·have d2 := zQv d2
  have d3 := zQA d3
  have hn : zWE v.n := by rw [d2, d3] at hvn; simp [okN] at hvn; exact ⟨by omega, by omega⟩
  refine zQl fun w4 hp4 _ => ⟨fun u => Pu w4 u, Pu.refl _, v.n, fun u hu => cl (b2 ((hp3.trans hp4).trans hu)) 1, f.width, fun u hu => cl (b1 ((hp3.trans hp4).trans hu)) 2, (yKj hn w4).mono ?_⟩
  rintro e w5 ⟨rfl, hp5⟩
  refine ⟨_, rfl, hp5, out ((hp03.trans hp4).trans hp5) ?_⟩
  rw [e0, if_neg (by rw [d2]; simp), if_pos d3, zXu]
 ·have d2 := zQv d2
  have d3 := zQj d3
  have d4 := zQA d4
  have e1 : zQK f p v = (decide ((v.s.size : Int) <= f.width) && decide (zXU v.s.data.toList = v.s.data.toList) && zX3 v.s.data.toList p) := by
   rw [e0, if_neg (by rw [d2]; simp), if_neg d3, if_pos d4]
  refine zQl fun w4 hp4 _ => ⟨fun u => Pu w4 u, Pu.refl _, v.s, fun u hu => cl (b2 ((hp3.trans hp4).trans hu)) 2, f.width, fun u hu => cl (b1 ((hp3.trans hp4).trans hu)) 2, Br.of (fun d5 => ?_) (fun d5 => out (hp03.trans hp4) ?_)⟩
  ·refine ⟨v.s, fun u hu => cl (b2 ((hp3.trans hp4).trans hu)) 2, v.s, fun u hu => cl (b2 ((hp3.trans hp4).trans hu)) 2, (yYP v.s (by omega) w4).mono ?_⟩
   rintro e w5 ⟨rfl, hp5⟩
   refine ⟨_, rfl, hp5, ?_⟩
   rw [zZh]
   have hbe : (bs (zXU v.s.data.toList) = v.s) ↔ zXU v.s.data.toList = v.s.data.toList := zVJ _ _
   refine Br.of (fun d6 => ⟨v.s, fun u hu => cl (b2 ((hp3.trans hp4).trans hu)) 2, (yXO v.s (by omega) p w5).mono ?_⟩) (fun d6 => out ((hp03.trans hp4).trans hp5) ?_)
   ·rintro e w6 ⟨rfl, hp6⟩
    refine ⟨_, rfl, out (((hp03.trans hp4).trans hp5).trans hp6) ?_⟩
    rw [e1, decide_eq_true (zQn d5), decide_eq_true (hbe.1 (zQn d6))]; rfl
   ·rw [e1, decide_eq_false (fun h => zQg d6 (hbe.2 h))]; simp
  ·rw [e1, decide_eq_false (zQg d5)]; rfl
 ·rw [e0, if_neg (by rw [zQv d2]; simp), if_neg (zQj d3), if_neg (zQj d4)]
end Go.Proofs.YtcihcbfcgjepfaaGreatDoor
